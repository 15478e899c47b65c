import Derived.Test.YtcdpapdefdnknaaProg
import Derived.Test.YtcdpapdefdnknaaPc1
import Derived.Test.YtcdpapdefdnknaaPc2
import Derived.Test.YtcdpapdefdnknaaPc3
import Derived.Test.YtcdpapdefdnknaaPc6
namespace Go.Proofs.Ytcdpapdefdnknaa
namespace Cy
open Go
def tl (F : ByteArray → Bool) (Q : List Rc) : List Rc := (Q.filter fun r => F r.key).map fun r => tomb r.key r.ver
theorem tl_snoc (F : ByteArray → Bool) (Q : List Rc) (r : Rc) : tl F (Q ++ [r]) = tl F Q ++ if F r.key then [tomb r.key r.ver] else [] := by
  unfold tl
  rw [List.filter_append, List.map_append]
  congr 1
  simp only [List.filter_cons, List.filter_nil]
  split <;> rfl
theorem tl_mem {F : ByteArray → Bool} {Q : List Rc} {x : Rc} : x ∈ tl F Q ↔ ∃ r ∈ Q, F r.key = true ∧ x = tomb r.key r.ver := by
  unfold tl
  rw [List.mem_map]
  constructor
  · rintro ⟨r, hr, rfl⟩
    obtain ⟨h1, h2⟩ := List.mem_filter.1 hr
    exact ⟨r, h1, h2, rfl⟩
  · rintro ⟨r, h1, h2, rfl⟩
    exact ⟨r, List.mem_filter.2 ⟨h1, h2⟩, rfl⟩
theorem tl_len (F : ByteArray → Bool) (Q : List Rc) : (tl F Q).length ≤ Q.length := by
  unfold tl; rw [List.length_map]; exact List.length_filter_le _ _
theorem isT_live {F : ByteArray → Bool} {Q : List Rc} (hv : ∀ r ∈ Q, 0 ≤ r.ver) : IsT F Q (liveL (tl F Q)) := by
  have hp : (tl F Q).Pairwise Rr := List.pairwise_iff_getElem.2 fun i j hi hj _ hk => by
    obtain ⟨r, _, _, e⟩ := tl_mem.1 (List.getElem_mem hj)
    rw [e] at hk; simp [tomb] at hk
  obtain ⟨i1, i2⟩ := live_inv _ hp
  have key : ∀ x ∈ liveL (tl F Q), x.kind = 2 ∧ x.val = ByteArray.empty ∧ F x.key = true ∧ hasK Q x.key ∧ x.ver = mxv Q x.key := fun x hx => by
    obtain ⟨j1, j2⟩ := i1 x hx
    obtain ⟨r, hr, hF, rfl⟩ := tl_mem.1 j1
    refine ⟨rfl, rfl, hF, ⟨r, hr, rfl⟩, ?_⟩
    obtain ⟨o, ho, hok, hov⟩ := mxv_at hv ⟨r, hr, rfl⟩
    have h1 := mxv_le hr rfl
    have h2 := (j2 (tomb o.key o.ver) (tl_mem.2 ⟨o, ho, by rw [hok]; exact hF, rfl⟩) hok).1
    simp only [tomb] at *
    omega
  refine ⟨live_sorted _, fun x => ⟨key x, ?_⟩⟩
  rintro ⟨h1, h2, h3, h4, h5⟩
  obtain ⟨o, ho, hok, hov⟩ := mxv_at hv h4
  obtain ⟨y, hy, hyk⟩ := i2 (tomb o.key o.ver) (tl_mem.2 ⟨o, ho, by rw [hok]; exact h3, rfl⟩)
  obtain ⟨k1, k2, k3, k4, k5⟩ := key y hy
  have : y = x := by
    obtain ⟨y1, y2, y3, y4⟩ := y
    obtain ⟨x1, x2, x3, x4⟩ := x
    simp only [tomb] at *
    subst hyk
    rw [hok] at k5 ⊢
    rw [k1, k2, k5, h1, h2, h5]
  rw [← this]; exact hy
theorem ins_at {f : Rc} : ∀ {D : List Rc} {p : Nat}, p ≤ D.length → (∀ i x, i < p → D[i]? = some x → slt x.key f.key = true) → (∀ x, D[p]? = some x → slt x.key f.key = false) →
    insF f D = match D[p]? with | none => D ++ [f] | some x => if x.key = f.key then (if f.ver ≥ x.ver then D.set p f else D) else D.take p ++ f :: D.drop p
  | [], p, hp, _, _ => by
    have : p = 0 := by simpa using hp
    subst this; rfl
  | y :: t, 0, _, _, h2 => by
    have := h2 y rfl
    unfold insF
    rw [this]; simp
  | y :: t, p + 1, hp, h1, h2 => by
    have hy := h1 0 y (by omega) rfl
    unfold insF
    rw [if_pos hy, ins_at (D := t) (p := p) (by simpa using hp) (fun i x hi hx => h1 (i + 1) x (by omega) (by simpa using hx)) (fun x hx => h2 x (by simpa using hx))]
    rw [List.getElem?_cons_succ]
    cases t[p]? with
    | none => rfl
    | some x =>
      simp only
      split
      · split <;> simp
      · simp
section
variable {h h' : Heap} {a : Option Addr} {c b s : Nat} {P : List (Option Addr)} {G : List (Option (Nat → Bool))} {X : List Rc}
theorem filter_r (bits hashes : Int) (sl : Sl eRc h a c X) (hs : small X) (hl : X.length * 48 ≤ 140737488351232) : HC Try.prog 18 #[.int .i64 bits, .int .i64 hashes, .slice a X.length c] h fun v h' => Ext h h' ∧
    ((¬ okF bits hashes ∧ v = .tuple #[.pointer none, .int .i64 150]) ∨ (okF bits hashes ∧ ∃ p w, v = .tuple #[ptr p 0, .int .i64 0] ∧ h.size ≤ p ∧ h.size ≤ w ∧ Flr h' p w bits.toNat hashes.toNat (fltR bits.toNat hashes.toNat X))) := by
  refine f18_sh _ _ _ _ _ _ _ ((new_r bits hashes h).mono ?_)
  rintro _ h1 ⟨x1, ⟨hno, rfl⟩ | ⟨hok, p, w, rfl, hp, hw, f1⟩⟩
  · exact ⟨x1, none, 150, rfl, fun _ => ⟨x1, .inl ⟨hno, rfl⟩⟩, fun e => (by simp at e)⟩
  · refine ⟨x1, some ⟨p, 0, none⟩, 0, rfl, fun e => (by simp at e), fun _ => ⟨fun v h2 => ∃ k : Nat, v = k ∧ k ≤ X.length ∧ Ext h h2 ∧ Flr h2 p w bits.toNat hashes.toNat (fltR bits.toNat hashes.toNat (X.take k)), fun v _ => X.length - v.toNat, ⟨0, rfl, Nat.zero_le _, x1, f1⟩, ?_⟩⟩
    rintro _ h2 ⟨k, rfl, hk, x2, f2⟩
    refine ⟨fun e => ?_, fun e => ?_⟩
    · have hkl := lt_of_dec e
      obtain ⟨lb, lo, el, d⟩ := (sl.ext x2).at (sl_get hkl)
      have hft := flt_take (b := bits.toNat) (s := hashes.toNat) hkl
      have hss := hs _ (List.getElem_mem hkl)
      generalize X[k] = r at *
      refine ⟨lb, lo, el, by omega, by omega, _, d.2.2.1, (key_r r.key hss h2).mono ?_⟩
      rintro _ h5 ⟨rfl, x5⟩
      refine ⟨x5, _, rfl, (add_r (f2.ext x5) (hsh r.key)).mono ?_⟩
      rintro _ h6 ⟨q, rfl, f6, g6⟩
      rw [wadd k (by omega)]
      refine ⟨q, rfl, ⟨k + 1, rfl, hkl, ?_, by rw [hft]; exact g6⟩, by show X.length - Int.toNat _ < X.length - Int.toNat _; omega⟩
      exact (((x2.trans x5).fr _).trans f6 fun _ _ q => q).ext fun i hi q => by omega
    · have hke : k = X.length := by have := ge_of_dec e; omega
      subst hke
      rw [List.take_length] at f2
      exact ⟨x2, .inr ⟨hok, p, w, rfl, hp, hw, f2⟩⟩
set_option maxHeartbeats 6400000 in
theorem needed_r {la : Option Addr} {lc : Nat} (sl : Sl eRc h la lc X) (hs : small X) (hl : X.length * 48 ≤ 140737488351232) (hv : ∀ r ∈ X, 0 ≤ r.ver) (f : FlsR h b s a c P G) (hP : P.length ≤ 4611686018427387904) :
    HC Try.prog 22 #[.slice la X.length lc, .slice a P.length c] h fun v h' => Ext h h' ∧ ∃ a' c' D, IsT (anyF b s G) X D ∧ v = .slice a' D.length c' ∧ Sl eRc h' a' c' D ∧ Own eRc.k tRc h.size h' a' c' := by
  have hG := f.2.1
  generalize hFF : anyF b s G = F
  refine f22_sh _ _ _ _ _ _ _ _ ⟨fun out n c' v h1 => ∃ q : Nat, v = q ∧ q ≤ X.length ∧ n = (liveL (tl F (X.take q))).length ∧ Ext h h1 ∧ Sl eRc h1 out c' (liveL (tl F (X.take q))) ∧ Own eRc.k tRc h.size h1 out c', fun _ _ _ v _ => X.length - v.toNat, ⟨0, rfl, Nat.zero_le _, rfl, Ext.refl _, Sl.nil _ _, Own.nil _ _ _ _⟩, ?_⟩
  rintro out _ c' _ h1 ⟨q, rfl, hq, rfl, x1, s1, w1⟩
  refine ⟨fun e => ?_, fun e => ?_⟩
  rotate_left
  · have hqe : q = X.length := by have := ge_of_dec e; omega
    subst hqe
    rw [List.take_length] at s1 ⊢
    exact ⟨x1, out, c', _, isT_live hv, rfl, s1, w1⟩
  have hql := lt_of_dec e
  have htk : tl F (X.take (q + 1)) = tl F (X.take q) ++ if F X[q].key then [tomb X[q].key X[q].ver] else [] := by
    rw [List.take_add_one, sl_get hql]; exact tl_snoc _ _ _
  have hO1 : liveL (tl F (X.take (q + 1))) = if F X[q].key then insF (tomb X[q].key X[q].ver) (liveL (tl F (X.take q))) else liveL (tl F (X.take q)) := by
    rw [htk]
    split
    · rw [live_app]
    · rw [List.append_nil]
  have hOl : (liveL (tl F (X.take q))).length ≤ q := by
    have h1 := live_len (tl F (X.take q))
    have h2 := tl_len F (X.take q)
    rw [List.length_take] at h2; omega
  have isO : ∀ x ∈ liveL (tl F (X.take q)), F x.key = true ∧ x.kind = 2 ∧ x.val = ByteArray.empty := fun x hx => by
    obtain ⟨a, b, c, _⟩ := ((isT_live (F := F) fun r hr => hv r (List.mem_of_mem_take hr)).mem x).1 hx
    exact ⟨c, a, b⟩
  obtain ⟨lb, lo, el, d⟩ := (sl.ext x1).at (sl_get hql)
  have hss := hs _ (List.getElem_mem hql)
  generalize X[q] = r at *
  generalize hO : liveL (tl F (X.take q)) = O at *
  generalize hO' : liveL (tl F (X.take (q + 1))) = O' at *
  refine ⟨fun o n cc h2 => n = O'.length ∧ Ext h h2 ∧ Sl eRc h2 o cc O' ∧ Own eRc.k tRc h.size h2 o cc, ?_, ?_⟩
  rotate_left
  · rintro o _ cc h2 ⟨rfl, x2, s2, w2⟩
    rw [wadd q (by omega)]
    exact ⟨⟨q + 1, rfl, hql, by rw [hO'], x2, by rw [hO']; exact s2, w2⟩, by show X.length - Int.toNat _ < X.length - Int.toNat _; omega⟩
  refine ⟨fun v => ∃ p : Nat, v = p ∧ p ≤ O.length ∧ ∀ i x, i < p → O[i]? = some x → slt x.key r.key = true, fun v => O.length - v.toNat, ⟨0, rfl, Nat.zero_le _, fun i x hi => by omega⟩, ?_⟩
  rintro _ ⟨p, rfl, hp, hlow⟩
  have hcell := fun (hpl : p < O.length) => s1.at (sl_get hpl)
  refine ⟨(match O[p]? with | none => false | some x => slt x.key r.key), ⟨fun e2 => ?_, fun e2 => ?_⟩, fun e2 => ?_, fun e2 => ?_⟩
  · have hpl := lt_of_dec e2
    obtain ⟨ob, oo, eo, dO⟩ := hcell hpl
    exact ⟨ob, oo, eo, by omega, by omega, _, dO.2.2.1, lb, lo, el, by omega, by omega, _, d.2.2.1, by rw [sl_get hpl]⟩
  · rw [List.getElem?_eq_none (ge_of_dec e2)]
  · have hpl : p < O.length := by
      rcases Nat.lt_or_ge p O.length with q | q
      · exact q
      · rw [List.getElem?_eq_none q] at e2; cases e2
    rw [sl_get hpl] at e2
    rw [wadd p (by omega)]
    refine ⟨⟨p + 1, rfl, hpl, fun i x hi hx => ?_⟩, by show O.length - Int.toNat _ < O.length - Int.toNat _; omega⟩
    by_cases ei : i = p
    · subst ei
      rw [sl_get hpl] at hx; cases hx; exact e2
    · exact hlow i x (by omega) hx
  have hge : ∀ x, O[p]? = some x → slt x.key r.key = false := fun x hx => by rw [hx] at e2; exact e2
  have hins := ins_at (f := tomb r.key r.ver) hp hlow hge
  refine ⟨(match O[p]? with | none => false | some x => decide (x.key = r.key)), ⟨fun e3 => ?_, fun e3 => ?_⟩, fun e3 => ?_, fun e3 => ?_⟩
  · have hpl := lt_of_dec e3
    obtain ⟨ob, oo, eo, dO⟩ := hcell hpl
    exact ⟨ob, oo, eo, by omega, by omega, _, dO.2.2.1, lb, lo, el, by omega, by omega, _, d.2.2.1, by rw [sl_get hpl]⟩
  · rw [List.getElem?_eq_none (ge_of_dec e3)]
  · -- the key stands already
    have hpl : p < O.length := by
      rcases Nat.lt_or_ge p O.length with q | q
      · exact q
      · rw [List.getElem?_eq_none q] at e3; cases e3
    rw [sl_get hpl] at e3 hins
    have hk : O[p].key = r.key := of_decide_eq_true e3
    obtain ⟨i1, i2, i3⟩ := isO _ (List.getElem_mem hpl)
    rw [hk] at i1
    have hins' : insF (tomb r.key r.ver) O = if (tomb r.key r.ver).ver ≥ O[p].ver then O.set p (tomb r.key r.ver) else O := by rw [hins]; exact if_pos hk
    rw [i1, if_pos rfl, hins'] at hO1
    have hA : r.ver ≥ O[p].ver → O' = O.set p (tomb r.key r.ver) := fun q => by rw [hO1]; exact if_pos q
    have hB : ¬ r.ver ≥ O[p].ver → O' = O := fun q => by rw [hO1]; exact if_neg q
    obtain ⟨ob, oo, eo, dO⟩ := hcell hpl
    refine ⟨fun h4 => Ext h h4 ∧ Sl eRc h4 out c' O' ∧ Own eRc.k tRc h.size h4 out c', ⟨lb, lo, el, by omega, by omega, _, d.2.1, ob, oo, eo, by omega, by omega, _, dO.2.1, fun e4 => ?_, fun e4 => ?_⟩, fun h3 ⟨x3, s3, w3⟩ => ⟨?_, x3, s3, w3⟩⟩
    · have hgt := of_decide_eq_true e4
      subst eo
      obtain ⟨u1, u2⟩ := s1.word w1 (i := p) (r := 1) (x' := tomb r.key r.ver) (v := .int .u64 r.ver) hpl (by decide) (by
        show [Value.int .i64 2, .int .u64 r.ver, .string r.key, .string ByteArray.empty] = [Value.int .i64 O[p].kind, .int .u64 O[p].ver, .string O[p].key, .string O[p].val].set 1 (.int .u64 r.ver)
        rw [i2, i3, hk]; rfl) (p := oo + (Int.toNat (p : Int)) * 4 + 1) (by rw [Int.toNat_natCast]; rfl)
      refine ⟨u1, fun h4 e4' => ?_⟩
      obtain ⟨s4, w4, f4⟩ := u2 h4 e4'
      refine ⟨(x1.fr _ |>.trans f4 fun _ _ q => q).ext fun i hi q => ?_, by rw [hA (by omega)]; exact s4, w4⟩
      have := (w1.low (blkA_of rfl)).1; omega
    · have hle := of_decide_eq_false e4
      refine ⟨x1, ?_, w1⟩
      have : O' = O := by
        by_cases q : r.ver ≥ O[p].ver
        · rw [hA q]
          have : tomb r.key r.ver = O[p] := by
            unfold tomb
            generalize O[p] = x at *
            obtain ⟨a, b, c, d⟩ := x
            simp only at *
            rw [i2, i3, hk]
            congr 1
            omega
          rw [this, List.set_getElem_self]
        · exact hB q
      rw [this]; exact s1
    · by_cases q : r.ver ≥ O[p].ver
      · rw [hA q, List.length_set]
      · rw [hB q]
  -- a new key
  have hne : ∀ x, O[p]? = some x → x.key ≠ r.key := fun x hx => by rw [hx] at e3; exact of_decide_eq_false e3
  have hinsE : insF (tomb r.key r.ver) O = O.take p ++ tomb r.key r.ver :: O.drop p := by
    rw [hins]
    cases hx : O[p]? with
    | none =>
      have h1 : O.length ≤ p := List.getElem?_eq_none_iff.1 hx
      have h2 : p = O.length := by omega
      subst h2; simp
    | some x => exact if_neg (hne x hx)
  refine ⟨fun has v h5 => ∃ j : Nat, v = j ∧ j ≤ P.length ∧ Ext h1 h5 ∧ has = (G.take j).any (sayF b s r.key), fun _ v _ => P.length - v.toNat, ⟨0, rfl, Nat.zero_le _, Ext.refl _, rfl⟩, ?_⟩
  rintro has _ h5 ⟨j, rfl, hj, x5, hhas⟩
  refine ⟨fun e4 => ?_, fun e4 => ?_⟩
  · have hjl := lt_of_dec e4
    have hg : G[j]? = some (G[j]'(by omega)) := List.getElem?_eq_getElem (by omega)
    have hnext : (G.take (j + 1)).any (sayF b s r.key) = ((G.take j).any (sayF b s r.key) || sayF b s r.key (G[j]'(by omega))) := by
      rw [List.take_add_one, hg, List.any_append]; simp
    rw [wadd j (by omega)]
    have dec : P.length - Int.toNat ((j + 1 : Nat) : Int) < P.length - Int.toNat (j : Int) := by omega
    refine ⟨fun e5 => ⟨⟨j + 1, rfl, hjl, x5, ?_⟩, dec⟩, fun e5 => ?_⟩
    · rw [hnext, ← hhas, e5]; rfl
    · rw [e5] at hhas
      obtain ⟨pb, po, ep, dp⟩ := (f.1.ext (x1.trans x5)).at (sl_get hjl)
      have hx := (f.ext (x1.trans x5)).2.2 j _ _ (sl_get hjl) hg
      rw [← hhas, Bool.false_or] at hnext
      generalize G[j]'(by omega) = g at *
      refine ⟨pb, po, ep, by omega, by omega, _, dp.1, fun e6 => ?_, fun e6 => ?_⟩
      · rcases hx with ⟨e7, _⟩ | ⟨fp, fw, FF, e7, rfl, ff⟩
        · rw [e7] at e6; cases e6
        · rw [e7]
          refine ⟨lb, lo, el, by omega, by omega, _, x5.cell d.2.2.1, (key_r r.key hss h5).mono ?_⟩
          rintro _ h6 ⟨rfl, x6⟩
          exact ⟨x6, _, rfl, _, fun h7 x7 => may_r (ff.ext (x6.trans x7)) (hsh r.key), ⟨j + 1, rfl, hjl, x5.trans x6, hnext.symm⟩, dec⟩
      · rcases hx with ⟨_, rfl⟩ | ⟨fp, fw, FF, e7, rfl, ff⟩
        · exact ⟨⟨j + 1, rfl, hjl, x5, hnext.symm⟩, dec⟩
        · rw [e7] at e6; cases e6
  have hje : j = P.length := by have := ge_of_dec e4; omega
  subst hje
  have hF : has = F r.key := by
    rw [hhas, ← hFF, hG, List.take_length]; rfl
  have s5 := s1.ext x5
  have w5 := w1.ext x5
  have x05 := x1.trans x5
  refine ⟨fun e5 => ?_, fun e5 => ?_⟩
  rotate_left
  · rw [hF] at e5
    rw [e5] at hO1
    have hO1 : O' = O := by rw [hO1]; simp
    rw [hO1]
    exact ⟨rfl, x05, s5, w5⟩
  rw [hF] at e5
  rw [e5, if_pos rfl, hinsE] at hO1
  have hOlen : O'.length = O.length + 1 := by rw [hO1]; simp; omega
  have hsc := s5.le
  have scut0 := s5.cut (l := 0) (r := p) (Nat.zero_le _) hp
  have scut1 := s5.cut (l := p) (r := O.length) hp (Nat.le_refl _)
  rw [List.take_length] at scut1
  rw [List.drop_zero] at scut0
  have lk : ∀ {g : Heap}, Fr (fun b => h5.size ≤ b) h5 g → Ext h5 g := fun f => f.ext fun i hi q => by omega
  refine ⟨fun x y => Fr (fun b => h5.size ≤ b) x y, fit_fr _, by decide, by omega, by omega, fun sl0 es0 => ⟨lb, lo, el, by omega, by omega, _, fun hx fx => (lk fx).cell (x5.cell d.2.1), _, fun hx fx => (lk fx).cell (x5.cell d.2.2.1), by omega, by omega, by omega, fun sl1 es1 => ?_⟩⟩
  rw [Int.toNat_natCast] at es1
  have es0' : sl0 = slA out 0 4 c' := es0
  have n0 : Int.toNat (p : Int) - Int.toNat 0 = (O.take p).length := by rw [List.length_take]; omega
  have n1 : Int.toNat (O.length : Int) - Int.toNat (p : Int) = (O.drop p).length := by rw [List.length_drop]; omega
  have c0 : c' - Int.toNat 0 = c' - 0 := rfl
  rw [n0, n1, c0, Int.toNat_natCast]
  have S0 : ∀ {g : Heap}, Fr (fun b => h5.size ≤ b) h5 g → Sl eRc g sl0 (c' - 0) (O.take p) := fun f => by rw [es0']; exact scut0.ext (lk f)
  have S1 : ∀ {g : Heap}, Fr (fun b => h5.size ≤ b) h5 g → Sl eRc g sl1 (c' - p) (O.drop p) := fun f => by rw [es1]; exact scut1.ext (lk f)
  have tail : ∀ {g : Heap} {ap : Option Addr} {ca nr : Nat} {n : Nat}, n = (O.take p).length → Fr (fun b => h5.size ≤ b) h5 g → Sl eRc g ap ca (O.take p) → Own eRc.k tRc h5.size g ap ca → Sl eRc g (some ⟨nr, 0, none⟩) 1 [tomb r.key r.ver] →
      HAppend Try.prog 32 32 (.slice ap n ca) (.slice (some ⟨nr, 0, none⟩) 1 1) g fun vv h11 => ∃ ap_1 : Option Addr, ∃ ap_n_1 ap_c_1 : Nat, vv = (.slice ap_1 ap_n_1 ap_c_1) ∧
        HAppend Try.prog 32 32 (.slice ap_1 ap_n_1 ap_c_1) (.slice sl1 (O.drop p).length (c' - p)) h11 fun vv h12 => ∃ ap_2 : Option Addr, ∃ ap_n_2 ap_c_2 : Nat, vv = (.slice ap_2 ap_n_2 ap_c_2) ∧ (ap_n_2 = O'.length ∧ Ext h h12 ∧ Sl eRc h12 ap_2 ap_c_2 O' ∧ Own eRc.k tRc h.size h12 ap_2 ap_c_2) := by
    intro g ap ca nr n hn fg sg wg sr
    subst hn
    have hz := fg.size
    refine app_sl aRc sg wg sr hz (by simp only [List.length_take, List.length_singleton]; omega) fun a1 c1 h11 f11 s11 w11 _ => ⟨a1, _, c1, rfl, ?_⟩
    have fg11 : Fr (fun b => h5.size ≤ b) h5 h11 := fg.trans (f11.mono fun i _ q => (wg.low q).1) fun _ _ q => q
    have hl11 : (O.take p).length + [tomb r.key r.ver].length = (O.take p ++ [tomb r.key r.ver]).length := by simp
    rw [hl11]
    refine app_sl aRc s11 w11 (S1 fg11) fg11.size (by simp only [List.length_append, List.length_take, List.length_singleton, List.length_drop]; omega) fun a2 c2 h12 f12 s12 w12 _ => ⟨a2, _, c2, rfl, ?_, ?_, ?_, w12.down x05.size⟩
    · rw [hOlen]; simp; omega
    · exact x05.trans (lk (fg11.trans (f12.mono fun i _ q => (w11.low q).1) fun _ _ q => q))
    · rw [hO1]
      have := s12
      rw [List.append_assoc] at this
      exact this
  have lit : ∀ {g g' : Heap} {nb : Nat}, nb = g.size → g' = g.push (.cells #[.int .i64 2, .int .u64 r.ver, .string r.key, .string ByteArray.empty] tRc) → Sl eRc g' (some ⟨nb, 0, none⟩) 1 [tomb r.key r.ver] := fun en e => by
    have hrow : _ := push_new (o := .cells (([tomb r.key r.ver] : List Rc).flatMap eRc.enc).toArray tRc) en
    exact Sl.lit (L := [tomb r.key r.ver]) (by rw [e]; exact hrow)
  refine ⟨fun nb h8 en e8 => ⟨?_, fun nb1 h13 en1 e13 => ?_⟩, fun nb h17 en e17 nb1 h18 en1 e18 => ?_⟩
  · have x8 : Ext h5 h8 := by rw [e8]; exact Ext.push _ _
    refine copyR rfl rfl en e8 (S0 (x8.fr _)) (by rw [List.length_take]; omega) fun a9 c9 h9 x9 f9 s9 w9 => ⟨f9, a9, _, c9, rfl, fun nb1 h10 en1 e10 => ?_⟩
    have x10 : Ext h9 h10 := by rw [e10]; exact Ext.push _ _
    exact tail rfl ((x9.trans x10).fr _) (s9.ext x10) (w9.ext x10) (lit en1 e10)
  · have x8 : Ext h5 h8 := by rw [e8]; exact Ext.push _ _
    have x13 : Ext h8 h13 := by rw [e13]; exact Ext.push _ _
    have hrow : h8[nb]? = some (.cells (([] : List Rc).flatMap eRc.enc).toArray tRc (0, 0)) := by rw [e8]; exact push_new en
    have z8 := x8.size
    refine app_own (E := eRc) (L := []) (h0 := h5) (n := 0) (n2 := (O.take p).length) aRc (x8.trans x13) (Sl.lit (x13.row hrow)) (Own.lit (x13.row hrow) (by omega)) rfl (S0 ((x8.trans x13).fr _)) rfl (by rw [List.length_take]; omega) fun a9 c9 h9 x9 f9 s9 w9 _ => ⟨f9.mono fun i _ q => by rw [blkA_some] at q; omega, a9, _, c9, rfl, ?_⟩
    have hlt : nb < h8.size := row_lt hrow
    exact tail (Nat.zero_add _) (x9.fr _) (by simpa using s9) w9 ((lit en1 e13).fr f9 fun b hb q => by rw [blkA_some] at hb q; omega)
  · have x17 : Ext h5 h17 := by rw [e17]; exact Ext.push _ _
    have x18 : Ext h17 h18 := by rw [e18]; exact Ext.push _ _
    have hrow : h18[nb1]? = some (.cells (([] : List Rc).flatMap eRc.enc).toArray tRc (0, 0)) := by rw [e18]; exact push_new en1
    have z17 := x17.size
    have z17' : h17.size = h5.size + 1 := by rw [e17]; simp
    refine app_own (E := eRc) (L := []) (h0 := h5) (n := 0) (n2 := (O.take p).length) aRc (x17.trans x18) (Sl.lit hrow) (Own.lit hrow (by omega)) rfl (S0 ((x17.trans x18).fr _)) rfl (by rw [List.length_take]; omega) fun a9 c9 h9 x9 f9 s9 w9 _ => ⟨f9.mono fun i _ q => by rw [blkA_some] at q; omega, a9, _, c9, rfl, ?_⟩
    exact tail (Nat.zero_add _) (x9.fr _) (by simpa using s9) w9 (((lit en e17).ext x18).fr f9 fun b hb q => by rw [blkA_some] at hb q; omega)
end
end Cy
end Go.Proofs.Ytcdpapdefdnknaa
namespace Go.Proofs.Ytcdpapdefdnknaa
open Go
open Go.Proofs.Ytcdpapdefdnknaa renaming hl_val → lv, hl_step → lp, hl_nil → ln, hl_yes → ly, hl_no → lo, hx_seq → xs, hx_region → xr, hx_cond → xc, hx_block → xb, hx_loopT → xl, hx_cut → xk, hx_has → xh, hx_skip → xi, hx_ret → xt, hx_exit → xe, seqQ_n → qn, seqQ_ret → qr, seqQ_exit → qe, blockQ_n → bn, blockQ_ret → br, blockQ_here → bh, hv_move → vm, hv_assign → va, hv_arith → vr, hv_load → vl, hv_loads → vL, hv_extract → vx, hv_field → vf, hv_build → vb, hv_index → vi, hp_pure → pp, hp_read → pr, has_cons → hc, has_nil → hn, hcells_cons → cc, hcells_nil → cn, rowcell → rc, hs_call → sc
set_option maxRecDepth 100000
set_option maxHeartbeats 4000000
theorem TyTF.agg3 : aggB Try.prog 3 = some false := by kernel_rfl
theorem TyTF.agg31 : aggB Try.prog 31 = some false := by kernel_rfl
theorem TyTF.agg32 : aggB Try.prog 32 = some false := by kernel_rfl
theorem TyTF.agg34 : aggB Try.prog 34 = some true := by kernel_rfl
theorem TyTF.agg36 : aggB Try.prog 36 = some true := by kernel_rfl
theorem TyTF.agg9 : aggB Try.prog 9 = some false := by kernel_rfl
theorem TyTF.cb10 : CallB Try.prog 10 := fun _ _ => Try.call10 _ _
theorem TyTF.cb11 : CallB Try.prog 11 := fun _ _ => Try.call11 _ _
theorem TyTF.cb12 : CallB Try.prog 12 := fun _ _ => Try.call12 _ _
theorem TyTF.cb13 : CallB Try.prog 13 := fun _ _ => Try.call13 _ _
theorem TyTF.cb14 : CallB Try.prog 14 := fun _ _ => Try.call14 _ _
theorem TyTF.cb15 : CallB Try.prog 15 := fun _ _ => Try.call15 _ _
theorem TyTF.cb17 : CallB Try.prog 17 := fun _ _ => Try.call17 _ _
theorem TyTF.cb18 : CallB Try.prog 18 := fun _ _ => Try.call18 _ _
theorem TyTF.cb21 : CallB Try.prog 21 := fun _ _ => Try.call21 _ _
theorem TyTF.cb22 : CallB Try.prog 22 := fun _ _ => Try.call22 _ _
theorem TyTF.cb23 : CallB Try.prog 23 := fun _ _ => Try.call23 _ _
theorem TyTF.cb24 : CallB Try.prog 24 := fun _ _ => Try.call24 _ _
theorem TyTF.cb28 : CallB Try.prog 28 := fun _ _ => Try.call28 _ _
theorem TyTF.cb29 : CallB Try.prog 29 := fun _ _ => Try.call29 _ _
theorem TyTF.cb30 : CallB Try.prog 30 := fun _ _ => Try.call30 _ _
theorem TyTF.cb31 : CallB Try.prog 31 := fun _ _ => Try.call31 _ _
theorem TyTF.cb32 : CallB Try.prog 32 := fun _ _ => Try.call32 _ _
theorem TyTF.cb38 : CallB Try.prog 38 := fun _ _ => Try.call38 _ _
theorem TyTF.cb47 : CallB Try.prog 47 := fun _ _ => Try.call47 _ _
theorem TyTF.cb48 : CallB Try.prog 48 := fun _ _ => Try.call48 _ _
theorem TyTF.cb8 : CallB Try.prog 8 := fun _ _ => Try.call8 _ _
theorem TyTF.cb9 : CallB Try.prog 9 := fun _ _ => Try.call9 _ _
theorem TyTF.el22 : elB Try.prog 22 = some 2 := by kernel_rfl
theorem TyTF.el32 : elB Try.prog 32 = some 4 := by kernel_rfl
theorem TyTF.el82 : elB Try.prog 82 = some 1 := by kernel_rfl
theorem TyTF.fld34_0 : fldB Try.prog 34 0 = some 0 := by kernel_rfl
theorem TyTF.fld34_1 : fldB Try.prog 34 1 = some 1 := by kernel_rfl
theorem TyTF.fld36_0 : fldB Try.prog 36 0 = some 0 := by kernel_rfl
theorem TyTF.fld36_2 : fldB Try.prog 36 2 = some 2 := by kernel_rfl
theorem TyTF.fld36_3 : fldB Try.prog 36 3 = some 3 := by kernel_rfl
theorem TyTF.mixed : Try.prog.follows .mixedOrders = true := by kernel_rfl
theorem TyTF.pl34 : plB Try.prog 34 = some [(0, 1), (1, 1)] := by kernel_rfl
theorem TyTF.pl43 : plB Try.prog 43 = some [(0, 1), (1, 1)] := by kernel_rfl
theorem TyTF.sz34 : szB Try.prog 34 = some 2 := by kernel_rfl
theorem TyTF.sz36 : szB Try.prog 36 = some 4 := by kernel_rfl
theorem TyTF.sz43 : szB Try.prog 43 = some 2 := by kernel_rfl
theorem TyTF.sz47 : szB Try.prog 47 = some 1 := by kernel_rfl
theorem TyTF.sz50 : szB Try.prog 50 = some 1 := by kernel_rfl
theorem TyTF.sz9 : szB Try.prog 9 = some 1 := by kernel_rfl
theorem TyTF.u22 : Try.prog.underlying 22 = some (.slice 34) := by kernel_rfl
theorem TyTF.u32 : Try.prog.underlying 32 = some (.slice 36) := by kernel_rfl
theorem TyTF.u39 : Try.prog.underlying 39 = some (.slice 43) := by kernel_rfl
theorem TyTF.u57 : Try.prog.underlying 57 = some (.slice 47) := by kernel_rfl
theorem TyTF.u58 : Try.prog.underlying 58 = some (.slice 50) := by kernel_rfl
theorem TyTF.u82 : Try.prog.underlying 82 = some (.slice 9) := by kernel_rfl
theorem TyTF.u9 : Try.prog.underlying 9 = some (.string) := by kernel_rfl
theorem TyTF.u92 : Try.prog.underlying 92 = some (.map 9 36) := by kernel_rfl
theorem TyTF.z34 : zeroB Try.prog 34 (.agg #[(.int .u64 0), (.slice none 0 0)]) := by unfold zeroB; kernel_rfl
theorem TyTF.z36 : zeroB Try.prog 36 (.agg #[(.int .i64 0), (.int .u64 0), (.string ByteArray.empty), (.string ByteArray.empty)]) := by unfold zeroB; kernel_rfl
theorem TyTF.z43 : zeroB Try.prog 43 (.agg #[(.string ByteArray.empty), (.string ByteArray.empty)]) := by unfold zeroB; kernel_rfl
theorem TyTF.z47 : zeroB Try.prog 47 (.pointer none) := by unfold zeroB; kernel_rfl
theorem TyTF.z50 : zeroB Try.prog 50 (.pointer none) := by unfold zeroB; kernel_rfl
theorem ext_pushed_f7_sh {h h1 : Heap} {o : Obj} (e : h1 = Array.push h o) : Ext h h1 := by rw [e]; exact Ext.push _ _
theorem f28_sh (l : Option Addr) (a7 : Nat) (b8 : Nat) (b3 : Int) (b2 : Int) (a6 : Int) (h : Heap) (R : Value → Heap → Prop)
  (H : HC Try.prog 32 #[(.int .i64 b2), (.int .i64 a6)] h (fun vv h1 => Ext h h1 ∧ ∃ r0 : Option Addr, ∃ r1 : Int, vv = (.tuple #[(.pointer r0), (.int .i64 r1)]) ∧ (((r1 != 0) = true → R (.tuple #[(.slice none 0 0), (.int .i64 r1)]) h1) ∧ ((r1 != 0) = false → (∃ (I3 : Option Addr → Nat → Nat → Int → Heap → Prop) (c5 : Option Addr → Nat → Nat → Int → Heap → Nat), I3 none 0 0 0 h1 ∧ (∀ (b6 : Option Addr) (a8 : Nat) (a9 : Nat) (v : Int) (h2 : Heap), I3 b6 a8 a9 v h2 → (((decide (v < (a7 : Int))) = true → (∃ c1 : Option Addr → Nat → Nat → Heap → Prop, (∃ b4 b5 : Nat, l = some ⟨b4, b5, none⟩ ∧ (0 : Int) ≤ v ∧ v < (a7 : Int) ∧ (∃ a0 : Int, ∃ a3 : Option Addr, ∃ a1 a2 : Nat, hcell h2 b4 (b5 + (Int.toNat v) * 2) = some (.int .u64 a0) ∧ hcell h2 b4 ((b5 + (Int.toNat v) * 2) + 1) = some (.slice a3 a1 a2) ∧ ((0 : Int) ≤ b3 ∧ b3 < (a7 : Int) ∧ (∃ x : Int, hcell h2 b4 (b5 + (Int.toNat b3) * 2) = some (.int .u64 x) ∧ (((decide (a0 < x)) = true → (∀ (h5 : Heap), Ext h2 h5 → HC Try.prog 17 #[(.int .i64 b2), (.int .i64 a6), (.slice a3 a1 a2)] h5 (fun vv h6 => Ext h5 h6 ∧ ∃ b1 : Option Addr, ∃ b7 : Int, vv = (.tuple #[(.pointer b1), (.int .i64 b7)]) ∧ (∀ nb h7, nb = Array.size h6 → h7 = Array.push h6 (.cells #[(.pointer b1)] 47) → HAppend Try.prog 57 57 (.slice b6 a8 a9) (.slice (some ⟨nb, 0, none⟩) 1 1) h7 (fun vv h8 => ∃ ap : Option Addr, ∃ c0 b9 : Nat, vv = (.slice ap c0 b9) ∧ (c1 ap c0 b9 h8)))))) ∧ ((decide (a0 < x)) = false → (∀ (h5 : Heap), Ext h2 h5 → (c1 b6 a8 a9 h5)))))))) ∧ (∀ (b0 : Option Addr) (a5 : Nat) (a4 : Nat) (h3 : Heap), c1 b0 a5 a4 h3 → (I3 b0 a5 a4 (IntKind.i64.wrap (v + 1)) h3 ∧ c5 b0 a5 a4 (IntKind.i64.wrap (v + 1)) h3 < c5 b6 a8 a9 v h2)))) ∧ ((decide (v < (a7 : Int))) = false → R (.tuple #[(.slice b6 a8 a9), (.int .i64 0)]) h2)))))))) :
  HC Try.prog 28 #[(.slice l a7 b8), (.int .i64 b3), (.int .i64 b2), (.int .i64 a6)] h R := by
 refine hc_of (args := [(.slice l a7 b8), (.int .i64 b3), (.int .i64 b2), (.int .i64 a6)]) Try.func28 rfl Try.ntmps28 (Nat.le_of_ble_eq_true rfl) ?_
 refine xs (xr ?_)
 refine lv rfl rfl (va rfl) (lv rfl rfl (va rfl) ?_)
 refine ln (qn (xs (xs (xr ?_))))
 refine lv rfl rfl (vm rfl) (lv rfl rfl (vm rfl) ?_)
 refine lp rfl rfl (sc TyTF.cb32 rfl (HC.mono H ?_))
 rintro _ h1 ⟨f2, r0, r1, rfl, H⟩
 refine lv rfl rfl (vm rfl) (lv rfl rfl (vx rfl rfl) (lv rfl rfl (vx rfl rfl) (lv rfl rfl (va rfl) (lv rfl rfl (va rfl) ?_))))
 refine ln (qn (xs (xr ?_)))
 refine lv rfl rfl (vm rfl) (lv rfl rfl (vr rfl rfl rfl) ?_)
 refine ln (qn ?_)
 refine xc (b := r1 != 0) rfl (fun c8 => ?_) (fun c8 => ?_)
 ·replace H := H.1 c8
  refine xs (xr ?_)
  refine lv rfl rfl (vm rfl) (lv rfl rfl (va rfl) (lv rfl rfl (va rfl) ?_))
  refine ln (qn (xt (qr ?_)))
  exact endQ_ret _ (res_two Try.results28 (rv_tmp rfl) (rv_tmp rfl)) H
 ·replace H := H.2 c8
  refine xi (qn (xs (xr ?_)))
  refine lv rfl rfl (va rfl) ?_
  refine ln (qn (xs (xs (xr ?_))))
  refine lv rfl rfl (vm rfl) (lv rfl rfl (v := (.int .i64 (a7 : Int))) (hv_len (n := a7) TyTF.u22 rfl) (lv rfl rfl (vm rfl) ?_))
  refine ln (qn (xb ?_))
  obtain ⟨I3, c5, e7, e9⟩ := H
  refine xl (σ := Option Addr × Nat × Nat × Int) (fun s => [(0, (.slice l a7 b8)), (1, (.int .i64 b3)), (2, (.int .i64 b2)), (3, (.int .i64 a6)), (12, (.slice s.1 s.2.1 s.2.2.1)), (26, (.slice l a7 b8)), (27, (.int .i64 (a7 : Int))), (28, (.int .i64 s.2.2.2))]) (fun s h' => I3 s.1 s.2.1 s.2.2.1 s.2.2.2 h' ∧ True) (fun s h' => c5 s.1 s.2.1 s.2.2.1 s.2.2.2 h') (none, 0, 0, 0) ⟨e7, trivial⟩ (hc rfl (hc rfl (hc rfl (hc rfl (hc rfl (hc rfl (hc rfl (hc rfl hn)))))))) ?_
  rintro ⟨b6, a8, a9, v⟩ ρ h2 ⟨e6, -⟩
  have H := e9 b6 a8 a9 v h2 e6
  refine xs (xr ?_)
  refine lv rfl rfl (vr rfl rfl rfl) ?_
  refine ln (qn (xs ?_))
  refine xc (b := decide (v < (a7 : Int))) rfl (fun d3 => ?_) (fun d3 => ?_)
  ·replace H := H.1 d3
   refine xi (qn ?_)
   obtain ⟨c1, d0, c4⟩ := H
   refine xk (fun ρ h' => ∃ b0 : Option Addr, ∃ a5 a4 : Nat, (c1 b0 a5 a4 h' ∧ True) ∧ Has ρ [(0, (.slice l a7 b8)), (1, (.int .i64 b3)), (2, (.int .i64 b2)), (3, (.int .i64 a6)), (12, (.slice b0 a5 a4)), (26, (.slice l a7 b8)), (27, (.int .i64 (a7 : Int))), (28, (.int .i64 v))]) ?_ ?_
   ·have H := d0; clear d0 c4
    refine xb (xs (xr ?_))
    obtain ⟨b4, b5, e8, d8, e1, Hq⟩ := H
    subst e8
    have H := Hq; clear Hq
    refine lv rfl rfl (v := (ptr b4 (b5 + (Int.toNat v) * 2))) (vi TyTF.el22 rfl rfl d8 e1) ?_
    obtain ⟨a0, a3, a1, a2, e0, e2, H⟩ := H
    refine lv rfl rfl (vL (vs := [(.int .u64 a0), (.slice a3 a1 a2)]) TyTF.agg34 TyTF.sz34 rfl (cc e0 (cc e2 cn))) ?_
    refine lp rfl rfl (hn_alloc TyTF.z34 ?_)
    intro sv h4 c7 d2
    have e5 := ext_pushed_f7_sh d2
    have d5 : Array.size h2 ≤ sv := Nat.le_of_eq (Eq.symm c7)
    have d1 : h4[sv]? = some (.cells #[(.int .u64 0), (.slice none 0 0)] 34 (0, 0)) := by rw [d2]; exact push_new c7
    refine lp rfl rfl (hn_stores (vs := [(.int .u64 a0), (.slice a3 a1 a2)]) rfl rfl TyTF.sz34 rfl (HWs_row d1 (by simp)) ?_)
    intro h5 d4
    have c6 : h5[sv]? = some (.cells #[(.int .u64 a0), (.slice a3 a1 a2)] 34 (0, 0)) := row_hsets_eq d4 d1 rfl
    have c3 := ext_hsets d4 e5 d5
    refine ln (qn (xs ?_))
    refine hx_draw TyTF.mixed [.pure, .read, .pure, .pure, .pure, .pure, .read, .pure] [0, 1, 2, 3, 4, 5, 6, 7] (by kernel_rfl) ?_
    refine pp (i := 0) rfl (wanted_0 rfl) rfl (ptr sv 0) (fun _ => vf TyTF.fld34_0 (b := sv) (o := 0) rfl) ?_
    refine pr (i := 1) rfl (wanted_0 rfl) rfl (.int .u64 a0) (fun _ he => vl TyTF.agg31 rfl (Ext.cell he (rc c6 rfl))) ?_
    refine pp (i := 2) rfl (wanted_0 rfl) rfl (.slice (some ⟨b4, b5, none⟩) a7 b8) (fun _ => vm rfl) ?_
    refine pp (i := 3) rfl (wanted_0 rfl) rfl (.int .i64 b3) (fun _ => vm rfl) ?_
    obtain ⟨d7, d6, H⟩ := H
    refine pp (i := 4) rfl (wanted_0 rfl) rfl (ptr b4 (b5 + (Int.toNat b3) * 2)) (fun _ => vi TyTF.el22 rfl rfl d7 d6) ?_
    refine pp (i := 5) rfl (wanted_0 rfl) rfl (ptr b4 (b5 + (Int.toNat b3) * 2)) (fun _ => vf TyTF.fld34_0 (b := b4) (o := b5 + (Int.toNat b3) * 2) rfl) ?_
    obtain ⟨x, e4, H⟩ := H
    refine pr (i := 6) rfl (wanted_0 rfl) rfl (.int .u64 x) (fun _ he => vl TyTF.agg31 rfl (Ext.cell he (Ext.cell c3 e4))) ?_
    refine pp (i := 7) rfl (wanted_0 rfl) rfl (.bool (decide (a0 < x))) (fun _ => vr rfl rfl rfl) ?_
    refine hp_nil ?_
    refine qn ?_
    refine xc (b := decide (a0 < x)) rfl (fun c2 => ?_) (fun c2 => ?_)
    ·replace H := H.1 c2
     refine xs (xr ?_)
     refine lv rfl rfl (vm rfl) (lv rfl rfl (vm rfl) (lv rfl rfl (v := (ptr sv 1)) (vf TyTF.fld34_1 (b := sv) (o := 0) rfl) (lv rfl rfl (vl TyTF.agg32 rfl (rc c6 rfl)) ?_)))
     replace H := H h5 c3
     refine lp rfl rfl (sc TyTF.cb17 rfl (HC.mono H ?_))
     rintro _ h6 ⟨f0, b1, b7, rfl, H⟩
     refine lv rfl rfl (vm rfl) (lv rfl rfl (vx rfl rfl) (lv rfl rfl (vx rfl rfl) (lv rfl rfl (va rfl) (lv rfl rfl (va rfl) ?_))))
     refine ln (qn (xr ?_))
     refine lv rfl rfl (vm rfl) (lv rfl rfl (vm rfl) ?_)
     refine lp rfl rfl (hn_buildSlice (n := 1) (vs := [(0, (.pointer b1))]) (cs := #[(.pointer b1)]) TyTF.u57 TyTF.sz47 TyTF.z47 rfl rfl (by kernel_rfl) ?_)
     intro nb h7 e3 c9
     replace H := H nb h7 e3 c9
     have f1 := ext_pushed_f7_sh c9
     refine lp rfl rfl (hs_append rfl rfl (HAppend.mono H ?_))
     rintro _ h8 ⟨ap, c0, b9, rfl, H⟩
     refine lv rfl rfl (va rfl) ?_
     refine ln (bn (qn ?_))
     exact ⟨_, _, _, ⟨H, trivial⟩, (hc rfl (hc rfl (hc rfl (hc rfl (hc rfl (hc rfl (hc rfl (hc rfl hn))))))))⟩
    ·replace H := H.2 c2
     refine xi (bn ?_)
     replace H := H h5 c3
     refine qn ?_
     exact ⟨_, _, _, ⟨H, trivial⟩, (hc rfl (hc rfl (hc rfl (hc rfl (hc rfl (hc rfl (hc rfl (hc rfl hn))))))))⟩
   ·rintro ρ h3 ⟨b0, a5, a4, ⟨d9, -⟩, hH⟩
    have H := c4 b0 a5 a4 h3 d9; clear d0 c4
    refine xh _ hH ?_
    refine xr ?_
    refine lv rfl rfl (vr rfl rfl rfl) (lv rfl rfl (vm rfl) ?_)
    refine ln (qn ?_)
    exact ⟨(b0, a5, a4, IntKind.i64.wrap (v + 1)), ⟨⟨H.1, trivial⟩, H.2⟩, (hc rfl (hc rfl (hc rfl (hc rfl (hc rfl (hc rfl (hc rfl (hc rfl hn))))))))⟩
  ·replace H := H.2 d3
   refine xe (qe (qe (bh (qn (xs (xr ?_))))))
   refine lv rfl rfl (vm rfl) (lv rfl rfl (va rfl) (lv rfl rfl (va rfl) ?_))
   refine ln (qn (xt ?_))
   exact endQ_ret _ (res_two Try.results28 (rv_tmp rfl) (rv_tmp rfl)) H
theorem f13_sh (l : Option Addr) (a5 : Nat) (b6 : Nat) (a2 : Int) (c8 : Int) (c0 : Int) (h : Heap) (R : Value → Heap → Prop)
  (H : HC Try.prog 10 #[(.slice l a5 b6)] h (fun vv h1 => Ext h h1 ∧ ∃ r : Int, vv = (.int .i64 r) ∧ (((r != 0) = true → R (.tuple #[(.slice none 0 0), (.int .i64 r)]) h1) ∧ ((r != 0) = false → ((((decide (a2 < 0)) || (decide (a2 ≥ (a5 : Int)))) = true → R (.tuple #[(.slice none 0 0), (.int .i64 1)]) h1) ∧ (((decide (a2 < 0)) || (decide (a2 ≥ (a5 : Int)))) = false → HC Try.prog 28 #[(.slice l a5 b6), (.int .i64 a2), (.int .i64 c8), (.int .i64 c0)] h1 (fun vv h2 => Ext h1 h2 ∧ ∃ r0 : Option Addr, ∃ b8 b9 : Nat, ∃ r1 : Int, vv = (.tuple #[(.slice r0 b8 b9), (.int .i64 r1)]) ∧ (((r1 != 0) = true → R (.tuple #[(.slice none 0 0), (.int .i64 r1)]) h2) ∧ ((r1 != 0) = false → (∃ c3 c4 : Nat, l = some ⟨c3, c4, none⟩ ∧ (0 : Int) ≤ a2 ∧ a2 < (a5 : Int) ∧ (∃ x : Option Addr, ∃ d9 d6 : Nat, hcell h2 c3 ((c4 + (Int.toNat a2) * 2) + 1) = some (.slice x d9 d6) ∧ HC Try.prog 21 #[(.slice x d9 d6), (.slice r0 b8 b9)] h2 (fun vv h3 => Ext h2 h3 ∧ ∃ c2 : Option Addr, ∃ b2 c1 : Nat, vv = (.slice c2 b2 c1) ∧ (∃ (d7 : Int → Option Addr → Nat → Nat → Int → Heap → Prop) (d3 : Int → Option Addr → Nat → Nat → Int → Heap → Nat), d7 0 none 0 0 0 h3 ∧ (∀ (a1 : Int) (c5 : Option Addr) (b0 : Nat) (b1 : Nat) (v : Int) (h4 : Heap), d7 a1 c5 b0 b1 v h4 → (((decide (v < (a5 : Int))) = true → (∃ e0 : Int → Option Addr → Nat → Nat → Heap → Prop, ((0 : Int) ≤ v ∧ v < (a5 : Int) ∧ (∃ a0 : Int, ∃ a7 : Option Addr, ∃ a3 a4 : Nat, hcell h4 c3 (c4 + (Int.toNat v) * 2) = some (.int .u64 a0) ∧ hcell h4 c3 ((c4 + (Int.toNat v) * 2) + 1) = some (.slice a7 a3 a4) ∧ (((v != a2) = true → (∃ e1 : Heap → Heap → Prop, Fit e1 ∧ (∀ (sv : Nat) (h7 : Heap), Array.size h4 ≤ sv → sv < Array.size h7 → Ext h4 h7 → ((∀ hx, e1 h7 hx → Kp [sv] h7 hx) ∧ HC Try.prog 29 #[(.slice a7 a3 a4)] h7 (fun vv e2 => e1 h7 e2 ∧ ∃ c9 : Option Addr, ∃ b7 b5 : Nat, vv = (.slice c9 b7 b5) ∧ (∀ d5 d8, d5 = Array.size e2 → d8 = Array.push e2 (.cells #[(.int .u64 a0), (.slice c9 b7 b5)] 34) → HAppend Try.prog 22 22 (.slice c5 b0 b1) (.slice (some ⟨d5, 0, none⟩) 1 1) d8 (fun vv g1 => ∃ d1 : Option Addr, ∃ c7 c6 : Nat, vv = (.slice d1 c7 c6) ∧ (e0 (if a0 > a1 then a0 else a1) d1 c7 c6 g1)))))))) ∧ ((v != a2) = false → (∀ (h7 : Heap), Ext h4 h7 → (e0 (if a0 > a1 then a0 else a1) c5 b0 b1 h7)))))) ∧ (∀ (a6 : Int) (b3 : Option Addr) (a9 : Nat) (a8 : Nat) (h5 : Heap), e0 a6 b3 a9 a8 h5 → (d7 a6 b3 a9 a8 (IntKind.i64.wrap (v + 1)) h5 ∧ d3 a6 b3 a9 a8 (IntKind.i64.wrap (v + 1)) h5 < d3 a1 c5 b0 b1 v h4)))) ∧ ((decide (v < (a5 : Int))) = false → ((((b2 : Int) == 0) = true → R (.tuple #[(.slice c5 b0 b1), (.int .i64 0)]) h4) ∧ (((b2 : Int) == 0) = false → (((a1 == 18446744073709551615) = true → R (.tuple #[(.slice none 0 0), (.int .i64 3)]) h4) ∧ ((a1 == 18446744073709551615) = false → (∀ nb e3, nb = Array.size h4 → e3 = Array.push h4 (.cells #[(.int .u64 (IntKind.u64.wrap (a1 + 1))), (.slice c2 b2 c1)] 34) → HAppend Try.prog 22 22 (.slice c5 b0 b1) (.slice (some ⟨nb, 0, none⟩) 1 1) e3 (fun vv g2 => ∃ ap : Option Addr, ∃ d4 d2 : Nat, vv = (.slice ap d4 d2) ∧ R (.tuple #[(.slice ap d4 d2), (.int .i64 0)]) g2)))))))))))))))))))))) :
  HC Try.prog 13 #[(.slice l a5 b6), (.int .i64 a2), (.int .i64 c8), (.int .i64 c0)] h R := by
 refine hc_of (args := [(.slice l a5 b6), (.int .i64 a2), (.int .i64 c8), (.int .i64 c0)]) Try.func13 rfl Try.ntmps13 (Nat.le_of_ble_eq_true rfl) ?_
 refine xs (xr ?_)
 refine lv rfl rfl (va rfl) (lv rfl rfl (va rfl) ?_)
 refine ln (qn (xs (xs (xr ?_))))
 refine lv rfl rfl (vm rfl) ?_
 refine lp rfl rfl (sc TyTF.cb10 rfl (HC.mono H ?_))
 rintro _ h1 ⟨j5, r, rfl, H⟩
 refine lv rfl rfl (va rfl) ?_
 refine ln (qn (xs (xr ?_)))
 refine lv rfl rfl (vm rfl) (lv rfl rfl (vr rfl rfl rfl) ?_)
 refine ln (qn ?_)
 refine xc (b := r != 0) rfl (fun f0 => ?_) (fun f0 => ?_)
 ·replace H := H.1 f0
  refine xs (xr ?_)
  refine lv rfl rfl (vm rfl) (lv rfl rfl (va rfl) (lv rfl rfl (va rfl) ?_))
  refine ln (qn (xt (qr ?_)))
  exact endQ_ret _ (res_two Try.results13 (rv_tmp rfl) (rv_tmp rfl)) H
 ·replace H := H.2 f0
  refine xi (qn (xs ?_))
  refine xk (fun ρ h' => h1 = h' ∧ Has ρ [(0, (.slice l a5 b6)), (1, (.int .i64 a2)), (2, (.int .i64 c8)), (3, (.int .i64 c0)), (30, (.bool ((decide (a2 < 0)) || (decide (a2 ≥ (a5 : Int))))))]) ?_ ?_
  ·refine xr ?_
   refine lv rfl rfl (vm rfl) (lv rfl rfl (vr rfl rfl rfl) (lv rfl rfl (vm rfl) ?_))
   rcases bool_or (decide (a2 < 0)) with b4 | b4
   ·refine lo (wanted_n rfl rfl rfl b4) rfl ?_
    refine lo (wanted_n rfl rfl rfl b4) rfl ?_
    refine lo (wanted_n rfl rfl rfl b4) rfl ?_
    refine lo (wanted_n rfl rfl rfl b4) rfl ?_
    refine lv rfl rfl (v := (.bool true)) (hv_pick_t rfl b4 rfl) ?_
    refine ln (qn ?_)
    exact ⟨rfl, (hc rfl (hc rfl (hc rfl (hc rfl (hc (show ((.bool true) : Value) = (.bool ((decide (a2 < 0)) || (decide (a2 ≥ (a5 : Int))))) from (by first | rfl | ((try rw [b4]); all_goals first | rfl | (simp only [Bool.true_or, Bool.or_true, Bool.false_or, Bool.or_false, Bool.true_and, Bool.and_true, Bool.false_and, Bool.and_false, Bool.not_true, Bool.not_false, Bool.cond_true, Bool.cond_false]; done)) | simp [b4])) hn)))))⟩
   ·refine ly (wanted_y rfl rfl rfl b4) rfl (HStep.of_val (v := (.int .i64 a2)) (vm rfl) ?_)
    refine ly (wanted_y rfl rfl rfl b4) rfl (HStep.of_val (v := (.slice l a5 b6)) (vm rfl) ?_)
    refine ly (wanted_y rfl rfl rfl b4) rfl (HStep.of_val (v := (.int .i64 (a5 : Int))) (hv_len (n := a5) TyTF.u22 rfl) ?_)
    refine ly (wanted_y rfl rfl rfl b4) rfl (HStep.of_val (v := (.bool (decide (a2 ≥ (a5 : Int))))) (vr rfl rfl rfl) ?_)
    refine lv rfl rfl (v := (.bool (decide (a2 ≥ (a5 : Int))))) (hv_pick_f rfl b4 rfl) ?_
    refine ln (qn ?_)
    exact ⟨rfl, (hc rfl (hc rfl (hc rfl (hc rfl (hc (show ((.bool (decide (a2 ≥ (a5 : Int)))) : Value) = (.bool ((decide (a2 < 0)) || (decide (a2 ≥ (a5 : Int))))) from (by first | rfl | ((try rw [b4]); all_goals first | rfl | (simp only [Bool.true_or, Bool.or_true, Bool.false_or, Bool.or_false, Bool.true_and, Bool.and_true, Bool.false_and, Bool.and_false, Bool.not_true, Bool.not_false, Bool.cond_true, Bool.cond_false]; done)) | simp [b4])) hn)))))⟩
  ·rintro ρ _ ⟨rfl, hH⟩
   refine xh _ hH ?_
   refine xc (b := ((decide (a2 < 0)) || (decide (a2 ≥ (a5 : Int))))) rfl (fun f4 => ?_) (fun f4 => ?_)
   ·replace H := H.1 f4
    refine xs (xr ?_)
    refine lv rfl rfl (va rfl) (lv rfl rfl (va rfl) ?_)
    refine ln (qn (xt (qr ?_)))
    exact endQ_ret _ (res_two Try.results13 (rv_tmp rfl) (rv_tmp rfl)) H
   ·replace H := H.2 f4
    refine xi (qn (xs (xr ?_)))
    refine lv rfl rfl (vm rfl) (lv rfl rfl (vm rfl) (lv rfl rfl (vm rfl) (lv rfl rfl (vm rfl) ?_)))
    refine lp rfl rfl (sc TyTF.cb28 rfl (HC.mono H ?_))
    rintro _ h2 ⟨j4, r0, b8, b9, r1, rfl, H⟩
    refine lv rfl rfl (vm rfl) (lv rfl rfl (vx rfl rfl) (lv rfl rfl (vx rfl rfl) (lv rfl rfl (va rfl) (lv rfl rfl (va rfl) ?_))))
    refine ln (qn (xs (xs (xr ?_))))
    refine lv rfl rfl (vm rfl) (lv rfl rfl (vr rfl rfl rfl) ?_)
    refine ln (qn ?_)
    refine xc (b := r1 != 0) rfl (fun f9 => ?_) (fun f9 => ?_)
    ·replace H := H.1 f9
     refine xs (xr ?_)
     refine lv rfl rfl (vm rfl) (lv rfl rfl (va rfl) (lv rfl rfl (va rfl) ?_))
     refine ln (qn (xt (qr ?_)))
     exact endQ_ret _ (res_two Try.results13 (rv_tmp rfl) (rv_tmp rfl)) H
    ·replace H := H.2 f9
     refine xi (qn (xs (xr ?_)))
     refine lv rfl rfl (vm rfl) (lv rfl rfl (vm rfl) ?_)
     obtain ⟨c3, c4, j1, j0, i9, Hq⟩ := H
     subst j1
     have H := Hq; clear Hq
     refine lv rfl rfl (v := (ptr c3 (c4 + (Int.toNat a2) * 2))) (vi TyTF.el22 rfl rfl j0 i9) (lv rfl rfl (v := (ptr c3 ((c4 + (Int.toNat a2) * 2) + 1))) (vf TyTF.fld34_1 (b := c3) (o := c4 + (Int.toNat a2) * 2) rfl) ?_)
     obtain ⟨x, d9, d6, g6, H⟩ := H
     refine lv rfl rfl (vl TyTF.agg32 rfl g6) (lv rfl rfl (vm rfl) ?_)
     refine lp rfl rfl (sc TyTF.cb21 rfl (HC.mono H ?_))
     rintro _ h3 ⟨j3, c2, b2, c1, rfl, H⟩
     refine lv rfl rfl (va rfl) ?_
     refine ln (qn (xs (xr ?_)))
     refine lv rfl rfl (va rfl) ?_
     refine ln (qn (xs (xr ?_)))
     refine lv rfl rfl (va rfl) ?_
     refine ln (qn (xs (xs (xr ?_))))
     refine lv rfl rfl (vm rfl) (lv rfl rfl (v := (.int .i64 (a5 : Int))) (hv_len (n := a5) TyTF.u22 rfl) (lv rfl rfl (vm rfl) ?_))
     refine ln (qn (xb ?_))
     obtain ⟨d7, d3, g4, g9⟩ := H
     refine xl (σ := Int × Option Addr × Nat × Nat × Int) (fun s => [(1, (.int .i64 a2)), (13, (.slice c2 b2 c1)), (14, (.int .u64 s.1)), (15, (.slice s.2.1 s.2.2.1 s.2.2.2.1)), (49, (.slice (some ⟨c3, c4, none⟩) a5 b6)), (50, (.int .i64 (a5 : Int))), (51, (.int .i64 s.2.2.2.2))]) (fun s h' => d7 s.1 s.2.1 s.2.2.1 s.2.2.2.1 s.2.2.2.2 h' ∧ True) (fun s h' => d3 s.1 s.2.1 s.2.2.1 s.2.2.2.1 s.2.2.2.2 h') (0, none, 0, 0, 0) ⟨g4, trivial⟩ (hc rfl (hc rfl (hc rfl (hc rfl (hc rfl (hc rfl (hc rfl hn))))))) ?_
     rintro ⟨a1, c5, b0, b1, v⟩ ρ h4 ⟨i8, -⟩
     have H := g9 a1 c5 b0 b1 v h4 i8
     refine xs (xr ?_)
     refine lv rfl rfl (vr rfl rfl rfl) ?_
     refine ln (qn (xs ?_))
     refine xc (b := decide (v < (a5 : Int))) rfl (fun e5 => ?_) (fun e5 => ?_)
     ·replace H := H.1 e5
      refine xi (qn ?_)
      obtain ⟨e0, e6, e4⟩ := H
      refine xk (fun ρ h' => ∃ a6 : Int, ∃ b3 : Option Addr, ∃ a9 a8 : Nat, (e0 a6 b3 a9 a8 h' ∧ True) ∧ Has ρ [(1, (.int .i64 a2)), (13, (.slice c2 b2 c1)), (14, (.int .u64 a6)), (15, (.slice b3 a9 a8)), (49, (.slice (some ⟨c3, c4, none⟩) a5 b6)), (50, (.int .i64 (a5 : Int))), (51, (.int .i64 v))]) ?_ ?_
      ·have H := e6; clear e6 e4
       refine xb (xs (xr ?_))
       refine lv rfl rfl (vm rfl) ?_
       obtain ⟨g5, g8, H⟩ := H
       refine lv rfl rfl (v := (ptr c3 (c4 + (Int.toNat v) * 2))) (vi TyTF.el22 rfl rfl g5 g8) ?_
       obtain ⟨a0, a7, a3, a4, i1, i5, H⟩ := H
       refine lv rfl rfl (vL (vs := [(.int .u64 a0), (.slice a7 a3 a4)]) TyTF.agg34 TyTF.sz34 rfl (cc i1 (cc i5 cn))) ?_
       refine lp rfl rfl (hn_alloc TyTF.z34 ?_)
       intro sv h6 f6 f3
       have g7 := ext_pushed_f7_sh f3
       have f8 : Array.size h4 ≤ sv := Nat.le_of_eq (Eq.symm f6)
       have f5 : h6[sv]? = some (.cells #[(.int .u64 0), (.slice none 0 0)] 34 (0, 0)) := by rw [f3]; exact push_new f6
       refine lv rfl rfl (va rfl) ?_
       refine lp rfl rfl (hn_stores (vs := [(.int .u64 a0), (.slice a7 a3 a4)]) rfl rfl TyTF.sz34 rfl (HWs_row f5 (by simp)) ?_)
       intro h7 f1
       have d0 : h7[sv]? = some (.cells #[(.int .u64 a0), (.slice a7 a3 a4)] 34 (0, 0)) := row_hsets_eq f1 f5 rfl
       have f7 := ext_hsets f1 g7 f8
       refine ln (qn (xs (xr ?_)))
       refine lv rfl rfl (vm rfl) (lv rfl rfl (v := (ptr sv 0)) (vf TyTF.fld34_0 (b := sv) (o := 0) rfl) (lv rfl rfl (vl TyTF.agg31 rfl (rc d0 rfl)) (lv rfl rfl (v := (.int .u64 (if a0 > a1 then a0 else a1))) (hv_max rfl rfl) (lv rfl rfl (va rfl) ?_))))
       refine ln (qn (xs (xr ?_)))
       refine lv rfl rfl (vm rfl) (lv rfl rfl (vm rfl) (lv rfl rfl (vr rfl rfl rfl) ?_))
       refine ln (qn ?_)
       refine xc (b := v != a2) rfl (fun e9 => ?_) (fun e9 => ?_)
       ·replace H := H.1 e9
        obtain ⟨e1, i4, H⟩ := H
        refine hx_drawT TyTF.mixed e1 i4 [.pure, .pure, .stay, .pure, .read, .tame, .pure, .ext, .wild, .pure] [0, 1, 2, 3, 4, 5, 6, 7, 8, 9] (by kernel_rfl) ?_
        refine pp (i := 0) rfl (wanted_0 rfl) rfl (.slice c5 b0 b1) (fun _ => vm rfl) ?_
        refine pp (i := 1) rfl (wanted_0 rfl) rfl (ptr sv 0) (fun _ => vf TyTF.fld34_0 (b := sv) (o := 0) rfl) ?_
        replace H := H sv h7 f8 (row_lt d0) f7
        obtain ⟨i2, H⟩ := H
        refine hp_stay (i := 2) rfl (wanted_0 rfl) rfl (.int .u64 a0) (fun _ he => vl TyTF.agg31 rfl ((fun hx he => rc (Kp.row (i2 hx he) (by simp) d0) rfl) _ he)) ?_
        refine pp (i := 3) rfl (wanted_0 rfl) rfl (ptr sv 1) (fun _ => vf TyTF.fld34_1 (b := sv) (o := 0) rfl) ?_
        refine pr (i := 4) rfl (wanted_0 rfl) rfl (.slice a7 a3 a4) (fun _ he => vl TyTF.agg32 rfl (Ext.cell he (rc d0 rfl))) ?_
        refine hp_tame (i := 5) rfl (wanted_0 rfl) rfl (sc TyTF.cb29 rfl (HC.mono H ?_))
        rintro _ e2 ⟨g3, c9, b7, b5, rfl, H⟩
        refine ⟨g3, ?_⟩
        refine pp (i := 6) rfl (wanted_0 rfl) rfl (.agg #[(.int .u64 a0), (.slice c9 b7 b5)]) (fun _ => vb (vs := [(0, (.int .u64 a0)), (1, (.slice c9 b7 b5))]) (cs := #[(.int .u64 a0), (.slice c9 b7 b5)]) TyTF.z34 TyTF.pl34 rfl (by kernel_rfl)) ?_
        refine hp_ext (i := 7) rfl (wanted_0 rfl) rfl (hn_buildSlice (n := 1) (vs := [(0, (.agg #[(.int .u64 a0), (.slice c9 b7 b5)]))]) (cs := #[(.int .u64 a0), (.slice c9 b7 b5)]) TyTF.u22 TyTF.sz34 TyTF.z34 rfl rfl (by kernel_rfl) ?_)
        intro d5 d8 i6 g0
        replace H := H d5 d8 i6 g0
        have i0 := ext_pushed_f7_sh g0
        refine ⟨i0, ?_⟩
        refine hp_wild (i := 8) rfl (wanted_0 rfl) rfl (hs_append rfl rfl (HAppend.mono H ?_))
        rintro _ g1 ⟨d1, c7, c6, rfl, H⟩
        refine pp (i := 9) rfl (wanted_0 rfl) rfl (.slice d1 c7 c6) (fun _ => va rfl) ?_
        refine hp_nil ?_
        refine bn (qn ?_)
        exact ⟨_, _, _, _, ⟨H, trivial⟩, (hc rfl (hc rfl (hc rfl (hc rfl (hc rfl (hc rfl (hc rfl hn)))))))⟩
       ·replace H := H.2 e9
        refine xi (bn ?_)
        replace H := H h7 f7
        refine qn ?_
        exact ⟨_, _, _, _, ⟨H, trivial⟩, (hc rfl (hc rfl (hc rfl (hc rfl (hc rfl (hc rfl (hc rfl hn)))))))⟩
      ·rintro ρ h5 ⟨a6, b3, a9, a8, ⟨i7, -⟩, hH⟩
       have H := e4 a6 b3 a9 a8 h5 i7; clear e6 e4
       refine xh _ hH ?_
       refine xr ?_
       refine lv rfl rfl (vr rfl rfl rfl) (lv rfl rfl (vm rfl) ?_)
       refine ln (qn ?_)
       exact ⟨(a6, b3, a9, a8, IntKind.i64.wrap (v + 1)), ⟨⟨H.1, trivial⟩, H.2⟩, (hc rfl (hc rfl (hc rfl (hc rfl (hc rfl (hc rfl (hc rfl hn)))))))⟩
     ·replace H := H.2 e5
      refine xe (qe (qe (bh (qn (xs (xs (xr ?_)))))))
      refine lv rfl rfl (vm rfl) (lv rfl rfl (v := (.int .i64 (b2 : Int))) (hv_len (n := b2) TyTF.u32 rfl) (lv rfl rfl (vr rfl rfl rfl) ?_))
      refine ln (qn ?_)
      refine xc (b := (b2 : Int) == 0) rfl (fun e8 => ?_) (fun e8 => ?_)
      ·replace H := H.1 e8
       refine xs (xr ?_)
       refine lv rfl rfl (vm rfl) (lv rfl rfl (va rfl) (lv rfl rfl (va rfl) ?_))
       refine ln (qn (xt (qr ?_)))
       exact endQ_ret _ (res_two Try.results13 (rv_tmp rfl) (rv_tmp rfl)) H
      ·replace H := H.2 e8
       refine xi (qn (xs (xs (xr ?_))))
       refine lv rfl rfl (vm rfl) (lv rfl rfl (vr rfl rfl rfl) ?_)
       refine ln (qn ?_)
       refine xc (b := a1 == 18446744073709551615) rfl (fun e7 => ?_) (fun e7 => ?_)
       ·replace H := H.1 e7
        refine xs (xr ?_)
        refine lv rfl rfl (va rfl) (lv rfl rfl (va rfl) ?_)
        refine ln (qn (xt (qr ?_)))
        exact endQ_ret _ (res_two Try.results13 (rv_tmp rfl) (rv_tmp rfl)) H
       ·replace H := H.2 e7
        refine xi (qn (xs (xr ?_)))
        refine lv rfl rfl (vm rfl) (lv rfl rfl (vm rfl) (lv rfl rfl (vr rfl rfl rfl) (lv rfl rfl (vm rfl) (lv rfl rfl (v := (.agg #[(.int .u64 (IntKind.u64.wrap (a1 + 1))), (.slice c2 b2 c1)])) (vb (vs := [(0, (.int .u64 (IntKind.u64.wrap (a1 + 1)))), (1, (.slice c2 b2 c1))]) (cs := #[(.int .u64 (IntKind.u64.wrap (a1 + 1))), (.slice c2 b2 c1)]) TyTF.z34 TyTF.pl34 rfl (by kernel_rfl)) ?_))))
        refine lp rfl rfl (hn_buildSlice (n := 1) (vs := [(0, (.agg #[(.int .u64 (IntKind.u64.wrap (a1 + 1))), (.slice c2 b2 c1)]))]) (cs := #[(.int .u64 (IntKind.u64.wrap (a1 + 1))), (.slice c2 b2 c1)]) TyTF.u22 TyTF.sz34 TyTF.z34 rfl rfl (by kernel_rfl) ?_)
        intro nb e3 i3 f2
        replace H := H nb e3 i3 f2
        have j2 := ext_pushed_f7_sh f2
        refine lp rfl rfl (hs_append rfl rfl (HAppend.mono H ?_))
        rintro _ g2 ⟨ap, d4, d2, rfl, H⟩
        refine lv rfl rfl (va rfl) (lv rfl rfl (va rfl) ?_)
        refine ln (qn (xt ?_))
        exact endQ_ret _ (res_two Try.results13 (rv_tmp rfl) (rv_tmp rfl)) H
theorem f14_sh (l : Option Addr) (a3 : Nat) (b7 : Nat) (a0 : Int) (c3 : Int) (a9 : Int) (h : Heap) (R : Value → Heap → Prop)
  (H : HC Try.prog 11 #[(.slice l a3 b7)] h (fun vv h1 => Ext h h1 ∧ ∃ r : Int, vv = (.int .i64 r) ∧ (((r != 0) = true → R (.tuple #[(.slice none 0 0), (.int .i64 r)]) h1) ∧ ((r != 0) = false → ((((decide (a0 < 0)) || (decide (a0 ≥ (a3 : Int)))) = true → R (.tuple #[(.slice none 0 0), (.int .i64 1)]) h1) ∧ (((decide (a0 < 0)) || (decide (a0 ≥ (a3 : Int)))) = false → HC Try.prog 30 #[(.int .i64 c3), (.int .i64 a9)] h1 (fun vv h2 => Ext h1 h2 ∧ ∃ r0 : Option Addr, ∃ r1 : Int, vv = (.tuple #[(.pointer r0), (.int .i64 r1)]) ∧ (((r1 != 0) = true → R (.tuple #[(.slice none 0 0), (.int .i64 r1)]) h2) ∧ ((r1 != 0) = false → (∃ (I9 : Option Addr → Nat → Nat → Option Addr → Nat → Nat → Int → Int → Heap → Prop) (e9 : Option Addr → Nat → Nat → Option Addr → Nat → Nat → Int → Int → Heap → Nat), I9 none 0 0 none 0 0 0 0 h2 ∧ (∀ (c8 : Option Addr) (b0 : Nat) (b1 : Nat) (b5 : Option Addr) (a6 : Nat) (a5 : Nat) (a4 : Int) (i : Int) (h3 : Heap), I9 c8 b0 b1 b5 a6 a5 a4 i h3 → (((decide (i < (a3 : Int))) = true → (∃ e5 : Option Addr → Nat → Nat → Option Addr → Nat → Nat → Int → Heap → Prop, (∃ c6 : Int, (∃ c1 c0 : Nat, l = some ⟨c1, c0, none⟩ ∧ (0 : Int) ≤ i ∧ i < (a3 : Int) ∧ (∃ x : Int, hcell h3 c1 (c0 + (Int.toNat i) * 2) = some (.int .u64 x) ∧ (((decide (x > a4)) = true → (c6 = x)) ∧ ((decide (x > a4)) = false → (c6 = a4))))) ∧ (((i == a0) = true → (e5 c8 b0 b1 b5 a6 a5 c6 h3)) ∧ ((i == a0) = false → (∃ f5 : Heap → Heap → Prop, Fit f5 ∧ (∃ a2 a1 : Nat, l = some ⟨a2, a1, none⟩ ∧ (0 : Int) ≤ i ∧ i < (a3 : Int) ∧ (∃ d7 : Int, (∀ hx, f5 h3 hx → hcell hx a2 (a1 + (Int.toNat i) * 2) = some (.int .u64 d7)) ∧ (∃ g7 : Option Addr, ∃ d3 d4 : Nat, hcell h3 a2 ((a1 + (Int.toNat i) * 2) + 1) = some (.slice g7 d3 d4) ∧ (∀ nb h5, nb = Array.size h3 → h5 = Array.push h3 (.cells #[] 36) → HAppend Try.prog 32 32 (.slice (some ⟨nb, 0, none⟩) 0 0) (.slice g7 d3 d4) h5 (fun vv h6 => f5 h5 h6 ∧ ∃ ap : Option Addr, ∃ b9 b8 : Nat, vv = (.slice ap b9 b8) ∧ (∀ f1 h7, f1 = Array.size h6 → h7 = Array.push h6 (.cells #[(.int .u64 d7), (.slice ap b9 b8)] 34) → HAppend Try.prog 22 22 (.slice c8 b0 b1) (.slice (some ⟨f1, 0, none⟩) 1 1) h7 (fun vv h8 => ∃ e2 : Option Addr, ∃ d2 c9 : Nat, vv = (.slice e2 d2 c9) ∧ (∃ e1 : Int, hcell h8 a2 (a1 + (Int.toNat i) * 2) = some (.int .u64 e1) ∧ ((0 : Int) ≤ a0 ∧ a0 < (a3 : Int) ∧ (∃ e3 : Int, hcell h8 a2 (a1 + (Int.toNat a0) * 2) = some (.int .u64 e3) ∧ (((decide (e1 < e3)) = true → (∃ f4 : Option Addr, ∃ e0 d6 : Nat, hcell h8 a2 ((a1 + (Int.toNat i) * 2) + 1) = some (.slice f4 e0 d6) ∧ HC Try.prog 18 #[(.int .i64 c3), (.int .i64 a9), (.slice f4 e0 d6)] h8 (fun vv h9 => Ext h8 h9 ∧ ∃ c5 : Option Addr, ∃ d5 : Int, vv = (.tuple #[(.pointer c5), (.int .i64 d5)]) ∧ (∀ e6 f3, e6 = Array.size h9 → f3 = Array.push h9 (.cells #[(.pointer c5)] 50) → HAppend Try.prog 58 58 (.slice b5 a6 a5) (.slice (some ⟨e6, 0, none⟩) 1 1) f3 (fun vv i8 => ∃ f0 : Option Addr, ∃ d9 d8 : Nat, vv = (.slice f0 d9 d8) ∧ (e5 e2 d2 c9 f0 d9 d8 c6 i8)))))) ∧ ((decide (e1 < e3)) = false → (e5 e2 d2 c9 b5 a6 a5 c6 h8))))))))))))))))) ∧ (∀ (c4 : Option Addr) (b3 : Nat) (b4 : Nat) (b2 : Option Addr) (a8 : Nat) (a7 : Nat) (b6 : Int) (h4 : Heap), e5 c4 b3 b4 b2 a8 a7 b6 h4 → (I9 c4 b3 b4 b2 a8 a7 b6 (IntKind.i64.wrap (i + 1)) h4 ∧ e9 c4 b3 b4 b2 a8 a7 b6 (IntKind.i64.wrap (i + 1)) h4 < e9 c8 b0 b1 b5 a6 a5 a4 i h3)))) ∧ ((decide (i < (a3 : Int))) = false → (∃ c1 c0 : Nat, l = some ⟨c1, c0, none⟩ ∧ (0 : Int) ≤ a0 ∧ a0 < (a3 : Int) ∧ (∃ x : Option Addr, ∃ d3 d4 : Nat, hcell h3 c1 ((c0 + (Int.toNat a0) * 2) + 1) = some (.slice x d3 d4) ∧ HC Try.prog 22 #[(.slice x d3 d4), (.slice b5 a6 a5)] h3 (fun vv e4 => Ext h3 e4 ∧ ∃ d1 : Option Addr, ∃ c2 d0 : Nat, vv = (.slice d1 c2 d0) ∧ ((((c2 : Int) == 0) = true → R (.tuple #[(.slice c8 b0 b1), (.int .i64 0)]) e4) ∧ (((c2 : Int) == 0) = false → (((a4 == 18446744073709551615) = true → R (.tuple #[(.slice none 0 0), (.int .i64 3)]) e4) ∧ ((a4 == 18446744073709551615) = false → (∀ nb f2, nb = Array.size e4 → f2 = Array.push e4 (.cells #[(.int .u64 (IntKind.u64.wrap (a4 + 1))), (.slice d1 c2 d0)] 34) → HAppend Try.prog 22 22 (.slice c8 b0 b1) (.slice (some ⟨nb, 0, none⟩) 1 1) f2 (fun vv i9 => ∃ ap : Option Addr, ∃ b9 b8 : Nat, vv = (.slice ap b9 b8) ∧ R (.tuple #[(.slice ap b9 b8), (.int .i64 0)]) i9)))))))))))))))))))))) :
  HC Try.prog 14 #[(.slice l a3 b7), (.int .i64 a0), (.int .i64 c3), (.int .i64 a9)] h R := by
 refine hc_of (args := [(.slice l a3 b7), (.int .i64 a0), (.int .i64 c3), (.int .i64 a9)]) Try.func14 rfl Try.ntmps14 (Nat.le_of_ble_eq_true rfl) ?_
 refine xs (xr ?_)
 refine lv rfl rfl (va rfl) (lv rfl rfl (va rfl) ?_)
 refine ln (qn (xs (xs (xr ?_))))
 refine lv rfl rfl (vm rfl) ?_
 refine lp rfl rfl (sc TyTF.cb11 rfl (HC.mono H ?_))
 rintro _ h1 ⟨l7, r, rfl, H⟩
 refine lv rfl rfl (va rfl) ?_
 refine ln (qn (xs (xr ?_)))
 refine lv rfl rfl (vm rfl) (lv rfl rfl (vr rfl rfl rfl) ?_)
 refine ln (qn ?_)
 refine xc (b := r != 0) rfl (fun i3 => ?_) (fun i3 => ?_)
 ·replace H := H.1 i3
  refine xs (xr ?_)
  refine lv rfl rfl (vm rfl) (lv rfl rfl (va rfl) (lv rfl rfl (va rfl) ?_))
  refine ln (qn (xt (qr ?_)))
  exact endQ_ret _ (res_two Try.results14 (rv_tmp rfl) (rv_tmp rfl)) H
 ·replace H := H.2 i3
  refine xi (qn (xs ?_))
  refine xk (fun ρ h' => h1 = h' ∧ Has ρ [(0, (.slice l a3 b7)), (1, (.int .i64 a0)), (2, (.int .i64 c3)), (3, (.int .i64 a9)), (32, (.bool ((decide (a0 < 0)) || (decide (a0 ≥ (a3 : Int))))))]) ?_ ?_
  ·refine xr ?_
   refine lv rfl rfl (vm rfl) (lv rfl rfl (vr rfl rfl rfl) (lv rfl rfl (vm rfl) ?_))
   rcases bool_or (decide (a0 < 0)) with c7 | c7
   ·refine lo (wanted_n rfl rfl rfl c7) rfl ?_
    refine lo (wanted_n rfl rfl rfl c7) rfl ?_
    refine lo (wanted_n rfl rfl rfl c7) rfl ?_
    refine lo (wanted_n rfl rfl rfl c7) rfl ?_
    refine lv rfl rfl (v := (.bool true)) (hv_pick_t rfl c7 rfl) ?_
    refine ln (qn ?_)
    exact ⟨rfl, (hc rfl (hc rfl (hc rfl (hc rfl (hc (show ((.bool true) : Value) = (.bool ((decide (a0 < 0)) || (decide (a0 ≥ (a3 : Int))))) from (by first | rfl | ((try rw [c7]); all_goals first | rfl | (simp only [Bool.true_or, Bool.or_true, Bool.false_or, Bool.or_false, Bool.true_and, Bool.and_true, Bool.false_and, Bool.and_false, Bool.not_true, Bool.not_false, Bool.cond_true, Bool.cond_false]; done)) | simp [c7])) hn)))))⟩
   ·refine ly (wanted_y rfl rfl rfl c7) rfl (HStep.of_val (v := (.int .i64 a0)) (vm rfl) ?_)
    refine ly (wanted_y rfl rfl rfl c7) rfl (HStep.of_val (v := (.slice l a3 b7)) (vm rfl) ?_)
    refine ly (wanted_y rfl rfl rfl c7) rfl (HStep.of_val (v := (.int .i64 (a3 : Int))) (hv_len (n := a3) TyTF.u22 rfl) ?_)
    refine ly (wanted_y rfl rfl rfl c7) rfl (HStep.of_val (v := (.bool (decide (a0 ≥ (a3 : Int))))) (vr rfl rfl rfl) ?_)
    refine lv rfl rfl (v := (.bool (decide (a0 ≥ (a3 : Int))))) (hv_pick_f rfl c7 rfl) ?_
    refine ln (qn ?_)
    exact ⟨rfl, (hc rfl (hc rfl (hc rfl (hc rfl (hc (show ((.bool (decide (a0 ≥ (a3 : Int)))) : Value) = (.bool ((decide (a0 < 0)) || (decide (a0 ≥ (a3 : Int))))) from (by first | rfl | ((try rw [c7]); all_goals first | rfl | (simp only [Bool.true_or, Bool.or_true, Bool.false_or, Bool.or_false, Bool.true_and, Bool.and_true, Bool.false_and, Bool.and_false, Bool.not_true, Bool.not_false, Bool.cond_true, Bool.cond_false]; done)) | simp [c7])) hn)))))⟩
  ·rintro ρ _ ⟨rfl, hH⟩
   refine xh _ hH ?_
   refine xc (b := ((decide (a0 < 0)) || (decide (a0 ≥ (a3 : Int))))) rfl (fun i6 => ?_) (fun i6 => ?_)
   ·replace H := H.1 i6
    refine xs (xr ?_)
    refine lv rfl rfl (va rfl) (lv rfl rfl (va rfl) ?_)
    refine ln (qn (xt (qr ?_)))
    exact endQ_ret _ (res_two Try.results14 (rv_tmp rfl) (rv_tmp rfl)) H
   ·replace H := H.2 i6
    refine xi (qn (xs (xs (xr ?_))))
    refine lv rfl rfl (vm rfl) (lv rfl rfl (vm rfl) ?_)
    refine lp rfl rfl (sc TyTF.cb30 rfl (HC.mono H ?_))
    rintro _ h2 ⟨l6, r0, r1, rfl, H⟩
    refine lv rfl rfl (vm rfl) (lv rfl rfl (vx rfl rfl) (lv rfl rfl (vx rfl rfl) (lv rfl rfl (va rfl) (lv rfl rfl (va rfl) ?_))))
    refine ln (qn (xs (xr ?_)))
    refine lv rfl rfl (vm rfl) (lv rfl rfl (vr rfl rfl rfl) ?_)
    refine ln (qn ?_)
    refine xc (b := r1 != 0) rfl (fun i1 => ?_) (fun i1 => ?_)
    ·replace H := H.1 i1
     refine xs (xr ?_)
     refine lv rfl rfl (vm rfl) (lv rfl rfl (va rfl) (lv rfl rfl (va rfl) ?_))
     refine ln (qn (xt (qr ?_)))
     exact endQ_ret _ (res_two Try.results14 (rv_tmp rfl) (rv_tmp rfl)) H
    ·replace H := H.2 i1
     refine xi (qn (xs (xr ?_)))
     refine lv rfl rfl (va rfl) ?_
     refine ln (qn (xs (xr ?_)))
     refine lv rfl rfl (va rfl) ?_
     refine ln (qn (xs (xr ?_)))
     refine lv rfl rfl (va rfl) ?_
     refine ln (qn (xs (xs (xr ?_))))
     refine lv rfl rfl (va rfl) ?_
     refine ln (qn (xb ?_))
     obtain ⟨I9, e9, k1, l0⟩ := H
     refine xl (σ := Option Addr × Nat × Nat × Option Addr × Nat × Nat × Int × Int) (fun s => [(0, (.slice l a3 b7)), (1, (.int .i64 a0)), (2, (.int .i64 c3)), (3, (.int .i64 a9)), (13, (.slice s.1 s.2.1 s.2.2.1)), (14, (.slice s.2.2.2.1 s.2.2.2.2.1 s.2.2.2.2.2.1)), (15, (.int .u64 s.2.2.2.2.2.2.1)), (16, (.int .i64 s.2.2.2.2.2.2.2))]) (fun s h' => I9 s.1 s.2.1 s.2.2.1 s.2.2.2.1 s.2.2.2.2.1 s.2.2.2.2.2.1 s.2.2.2.2.2.2.1 s.2.2.2.2.2.2.2 h' ∧ True) (fun s h' => e9 s.1 s.2.1 s.2.2.1 s.2.2.2.1 s.2.2.2.2.1 s.2.2.2.2.2.1 s.2.2.2.2.2.2.1 s.2.2.2.2.2.2.2 h') (none, 0, 0, none, 0, 0, 0, 0) ⟨k1, trivial⟩ (hc rfl (hc rfl (hc rfl (hc rfl (hc rfl (hc rfl (hc rfl (hc rfl hn)))))))) ?_
     rintro ⟨c8, b0, b1, b5, a6, a5, a4, i⟩ ρ h3 ⟨k2, -⟩
     have H := l0 c8 b0 b1 b5 a6 a5 a4 i h3 k2
     refine xs (xs (xr ?_))
     refine lv rfl rfl (vm rfl) (lv rfl rfl (vm rfl) (lv rfl rfl (v := (.int .i64 (a3 : Int))) (hv_len (n := a3) TyTF.u22 rfl) (lv rfl rfl (vr rfl rfl rfl) ?_)))
     refine ln (qn ?_)
     refine xc (b := decide (i < (a3 : Int))) rfl (fun g4 => ?_) (fun g4 => ?_)
     ·replace H := H.1 g4
      refine xi (qn ?_)
      obtain ⟨e5, g2, g6⟩ := H
      refine xk (fun ρ h' => ∃ c4 : Option Addr, ∃ b3 b4 : Nat, ∃ b2 : Option Addr, ∃ a8 a7 : Nat, ∃ b6 : Int, (e5 c4 b3 b4 b2 a8 a7 b6 h' ∧ True) ∧ Has ρ [(0, (.slice l a3 b7)), (1, (.int .i64 a0)), (2, (.int .i64 c3)), (3, (.int .i64 a9)), (13, (.slice c4 b3 b4)), (14, (.slice b2 a8 a7)), (15, (.int .u64 b6)), (16, (.int .i64 i))]) ?_ ?_
      ·have H := g2; clear g2 g6
       refine xb ?_
       obtain ⟨c6, g0, f9⟩ := H
       refine xk (fun ρ h' => h3 = h' ∧ Has ρ [(0, (.slice l a3 b7)), (1, (.int .i64 a0)), (2, (.int .i64 c3)), (3, (.int .i64 a9)), (13, (.slice c8 b0 b1)), (14, (.slice b5 a6 a5)), (15, (.int .u64 c6)), (16, (.int .i64 i))]) ?_ ?_
       ·have H := g0; clear g0 f9
        refine xs (xr ?_)
        refine lv rfl rfl (vm rfl) (lv rfl rfl (vm rfl) ?_)
        obtain ⟨c1, c0, f6, i5, i7, Hq⟩ := H
        subst f6
        have H := Hq; clear Hq
        refine lv rfl rfl (v := (ptr c1 (c0 + (Int.toNat i) * 2))) (vi TyTF.el22 rfl rfl i5 i7) (lv rfl rfl (v := (ptr c1 (c0 + (Int.toNat i) * 2))) (vf TyTF.fld34_0 (b := c1) (o := c0 + (Int.toNat i) * 2) rfl) ?_)
        obtain ⟨x, i2, H⟩ := H
        refine lv rfl rfl (vl TyTF.agg31 rfl i2) (lv rfl rfl (vm rfl) (lv rfl rfl (vr rfl rfl rfl) ?_))
        refine ln (qn ?_)
        refine xc (b := decide (x > a4)) rfl (fun g3 => ?_) (fun g3 => ?_)
        ·replace H := H.1 g3
         refine xr ?_
         refine lv rfl rfl (vm rfl) (lv rfl rfl (vm rfl) (lv rfl rfl (v := (ptr c1 (c0 + (Int.toNat i) * 2))) (vi TyTF.el22 rfl rfl i5 i7) (lv rfl rfl (v := (ptr c1 (c0 + (Int.toNat i) * 2))) (vf TyTF.fld34_0 (b := c1) (o := c0 + (Int.toNat i) * 2) rfl) (lv rfl rfl (vl TyTF.agg31 rfl i2) (lv rfl rfl (va rfl) ?_)))))
         refine ln (qn ?_)
         obtain rfl := H
         exact ⟨rfl, (hc rfl (hc rfl (hc rfl (hc rfl (hc rfl (hc rfl (hc rfl (hc rfl hn))))))))⟩
        ·replace H := H.2 g3
         refine xi (qn ?_)
         obtain rfl := H
         exact ⟨rfl, (hc rfl (hc rfl (hc rfl (hc rfl (hc rfl (hc rfl (hc rfl (hc rfl hn))))))))⟩
       ·have H := f9; clear g0 f9
        rintro ρ _ ⟨rfl, hH⟩
        refine xh _ hH ?_
        refine xs (xs (xr ?_))
        refine lv rfl rfl (vm rfl) (lv rfl rfl (vm rfl) (lv rfl rfl (vr rfl rfl rfl) ?_))
        refine ln (qn ?_)
        refine xc (b := i == a0) rfl (fun f7 => ?_) (fun f7 => ?_)
        ·replace H := H.1 f7
         refine xe (qe (bh (qn ?_)))
         exact ⟨_, _, _, _, _, _, _, ⟨H, trivial⟩, (hc rfl (hc rfl (hc rfl (hc rfl (hc rfl (hc rfl (hc rfl (hc rfl hn))))))))⟩
        ·replace H := H.2 f7
         refine xi (qn (xs ?_))
         obtain ⟨f5, k7, H⟩ := H
         refine hx_drawT TyTF.mixed f5 k7 [.pure, .pure, .pure, .pure, .pure, .stay, .ext, .pure, .pure, .pure, .pure, .read, .tame, .pure, .ext, .wild, .pure] [0, 1, 2, 3, 4, 5, 7, 8, 9, 10, 11, 6, 12, 13, 14, 15, 16] (by kernel_rfl) ?_
         refine pp (i := 0) rfl (wanted_0 rfl) rfl (.slice c8 b0 b1) (fun _ => vm rfl) ?_
         refine pp (i := 1) rfl (wanted_0 rfl) rfl (.slice l a3 b7) (fun _ => vm rfl) ?_
         refine pp (i := 2) rfl (wanted_0 rfl) rfl (.int .i64 i) (fun _ => vm rfl) ?_
         obtain ⟨a2, a1, f6, e7, e8, Hq⟩ := H
         subst f6
         have H := Hq; clear Hq
         refine pp (i := 3) rfl (wanted_0 rfl) rfl (ptr a2 (a1 + (Int.toNat i) * 2)) (fun _ => vi TyTF.el22 rfl rfl e7 e8) ?_
         refine pp (i := 4) rfl (wanted_0 rfl) rfl (ptr a2 (a1 + (Int.toNat i) * 2)) (fun _ => vf TyTF.fld34_0 (b := a2) (o := a1 + (Int.toNat i) * 2) rfl) ?_
         obtain ⟨d7, k4, H⟩ := H
         refine hp_stay (i := 5) rfl (wanted_0 rfl) rfl (.int .u64 d7) (fun _ he => vl TyTF.agg31 rfl (k4 _ he)) ?_
         refine pp (i := 7) rfl (wanted_0 rfl) rfl (.slice (some ⟨a2, a1, none⟩) a3 b7) (fun _ => vm rfl) ?_
         refine pp (i := 8) rfl (wanted_0 rfl) rfl (.int .i64 i) (fun _ => vm rfl) ?_
         refine pp (i := 9) rfl (wanted_0 rfl) rfl (ptr a2 (a1 + (Int.toNat i) * 2)) (fun _ => vi TyTF.el22 rfl rfl e7 e8) ?_
         refine pp (i := 10) rfl (wanted_0 rfl) rfl (ptr a2 ((a1 + (Int.toNat i) * 2) + 1)) (fun _ => vf TyTF.fld34_1 (b := a2) (o := a1 + (Int.toNat i) * 2) rfl) ?_
         obtain ⟨g7, d3, d4, k3, H⟩ := H
         refine pr (i := 11) rfl (wanted_0 rfl) rfl (.slice g7 d3 d4) (fun _ he => vl TyTF.agg32 rfl (Ext.cell he k3)) ?_
         refine hp_ext (i := 6) rfl (wanted_0 rfl) rfl (hn_buildSlice (n := 0) (vs := []) (cs := #[]) TyTF.u32 TyTF.sz36 TyTF.z36 rfl rfl (by kernel_rfl) ?_)
         intro nb h5 j7 i4
         replace H := H nb h5 j7 i4
         have j2 := ext_pushed_f7_sh i4
         refine ⟨j2, ?_⟩
         refine hp_tame (i := 12) rfl (wanted_0 rfl) rfl (hs_append rfl rfl (HAppend.mono H ?_))
         rintro _ h6 ⟨k5, ap, b9, b8, rfl, H⟩
         refine ⟨k5, ?_⟩
         refine pp (i := 13) rfl (wanted_0 rfl) rfl (.agg #[(.int .u64 d7), (.slice ap b9 b8)]) (fun _ => vb (vs := [(0, (.int .u64 d7)), (1, (.slice ap b9 b8))]) (cs := #[(.int .u64 d7), (.slice ap b9 b8)]) TyTF.z34 TyTF.pl34 rfl (by kernel_rfl)) ?_
         refine hp_ext (i := 14) rfl (wanted_0 rfl) rfl (hn_buildSlice (n := 1) (vs := [(0, (.agg #[(.int .u64 d7), (.slice ap b9 b8)]))]) (cs := #[(.int .u64 d7), (.slice ap b9 b8)]) TyTF.u22 TyTF.sz34 TyTF.z34 rfl rfl (by kernel_rfl) ?_)
         intro f1 h7 j9 g9
         replace H := H f1 h7 j9 g9
         have j6 := ext_pushed_f7_sh g9
         refine ⟨j6, ?_⟩
         refine hp_wild (i := 15) rfl (wanted_0 rfl) rfl (hs_append rfl rfl (HAppend.mono H ?_))
         rintro _ h8 ⟨e2, d2, c9, rfl, H⟩
         refine pp (i := 16) rfl (wanted_0 rfl) rfl (.slice e2 d2 c9) (fun _ => va rfl) ?_
         refine hp_nil ?_
         refine qn (xs ?_)
         refine hx_draw TyTF.mixed [.pure, .pure, .pure, .pure, .read, .pure, .pure, .pure, .pure, .read, .pure] [0, 1, 2, 3, 4, 5, 6, 7, 8, 9, 10] (by kernel_rfl) ?_
         refine pp (i := 0) rfl (wanted_0 rfl) rfl (.slice (some ⟨a2, a1, none⟩) a3 b7) (fun _ => vm rfl) ?_
         refine pp (i := 1) rfl (wanted_0 rfl) rfl (.int .i64 i) (fun _ => vm rfl) ?_
         refine pp (i := 2) rfl (wanted_0 rfl) rfl (ptr a2 (a1 + (Int.toNat i) * 2)) (fun _ => vi TyTF.el22 rfl rfl e7 e8) ?_
         refine pp (i := 3) rfl (wanted_0 rfl) rfl (ptr a2 (a1 + (Int.toNat i) * 2)) (fun _ => vf TyTF.fld34_0 (b := a2) (o := a1 + (Int.toNat i) * 2) rfl) ?_
         obtain ⟨e1, j8, H⟩ := H
         refine pr (i := 4) rfl (wanted_0 rfl) rfl (.int .u64 e1) (fun _ he => vl TyTF.agg31 rfl (Ext.cell he j8)) ?_
         refine pp (i := 5) rfl (wanted_0 rfl) rfl (.slice (some ⟨a2, a1, none⟩) a3 b7) (fun _ => vm rfl) ?_
         refine pp (i := 6) rfl (wanted_0 rfl) rfl (.int .i64 a0) (fun _ => vm rfl) ?_
         obtain ⟨k9, j4, H⟩ := H
         refine pp (i := 7) rfl (wanted_0 rfl) rfl (ptr a2 (a1 + (Int.toNat a0) * 2)) (fun _ => vi TyTF.el22 rfl rfl k9 j4) ?_
         refine pp (i := 8) rfl (wanted_0 rfl) rfl (ptr a2 (a1 + (Int.toNat a0) * 2)) (fun _ => vf TyTF.fld34_0 (b := a2) (o := a1 + (Int.toNat a0) * 2) rfl) ?_
         obtain ⟨e3, j1, H⟩ := H
         refine pr (i := 9) rfl (wanted_0 rfl) rfl (.int .u64 e3) (fun _ he => vl TyTF.agg31 rfl (Ext.cell he j1)) ?_
         refine pp (i := 10) rfl (wanted_0 rfl) rfl (.bool (decide (e1 < e3))) (fun _ => vr rfl rfl rfl) ?_
         refine hp_nil ?_
         refine qn ?_
         refine xc (b := decide (e1 < e3)) rfl (fun g1 => ?_) (fun g1 => ?_)
         ·replace H := H.1 g1
          refine xs (xr ?_)
          refine lv rfl rfl (vm rfl) (lv rfl rfl (vm rfl) (lv rfl rfl (vm rfl) (lv rfl rfl (vm rfl) (lv rfl rfl (v := (ptr a2 (a1 + (Int.toNat i) * 2))) (vi TyTF.el22 rfl rfl e7 e8) (lv rfl rfl (v := (ptr a2 ((a1 + (Int.toNat i) * 2) + 1))) (vf TyTF.fld34_1 (b := a2) (o := a1 + (Int.toNat i) * 2) rfl) ?_)))))
          obtain ⟨f4, e0, d6, k6, H⟩ := H
          refine lv rfl rfl (vl TyTF.agg32 rfl k6) ?_
          refine lp rfl rfl (sc TyTF.cb18 rfl (HC.mono H ?_))
          rintro _ h9 ⟨l5, c5, d5, rfl, H⟩
          refine lv rfl rfl (vm rfl) (lv rfl rfl (vx rfl rfl) (lv rfl rfl (vx rfl rfl) (lv rfl rfl (va rfl) (lv rfl rfl (va rfl) ?_))))
          refine ln (qn (xr ?_))
          refine lv rfl rfl (vm rfl) (lv rfl rfl (vm rfl) ?_)
          refine lp rfl rfl (hn_buildSlice (n := 1) (vs := [(0, (.pointer c5))]) (cs := #[(.pointer c5)]) TyTF.u58 TyTF.sz50 TyTF.z50 rfl rfl (by kernel_rfl) ?_)
          intro e6 f3 k8 i0
          replace H := H e6 f3 k8 i0
          have l3 := ext_pushed_f7_sh i0
          refine lp rfl rfl (hs_append rfl rfl (HAppend.mono H ?_))
          rintro _ i8 ⟨f0, d9, d8, rfl, H⟩
          refine lv rfl rfl (va rfl) ?_
          refine ln (bn (qn ?_))
          exact ⟨_, _, _, _, _, _, _, ⟨H, trivial⟩, (hc rfl (hc rfl (hc rfl (hc rfl (hc rfl (hc rfl (hc rfl (hc rfl hn))))))))⟩
         ·replace H := H.2 g1
          refine xi (bn (qn ?_))
          exact ⟨_, _, _, _, _, _, _, ⟨H, trivial⟩, (hc rfl (hc rfl (hc rfl (hc rfl (hc rfl (hc rfl (hc rfl (hc rfl hn))))))))⟩
      ·rintro ρ h4 ⟨c4, b3, b4, b2, a8, a7, b6, ⟨j0, -⟩, hH⟩
       have H := g6 c4 b3 b4 b2 a8 a7 b6 h4 j0; clear g2 g6
       refine xh _ hH ?_
       refine xr ?_
       refine lv rfl rfl (vm rfl) (lv rfl rfl (vr rfl rfl rfl) (lv rfl rfl (va rfl) ?_))
       refine ln (qn ?_)
       exact ⟨(c4, b3, b4, b2, a8, a7, b6, IntKind.i64.wrap (i + 1)), ⟨⟨H.1, trivial⟩, H.2⟩, (hc rfl (hc rfl (hc rfl (hc rfl (hc rfl (hc rfl (hc rfl (hc rfl hn))))))))⟩
     ·replace H := H.2 g4
      refine xe (qe (qe (bh (qn (xs (xr ?_))))))
      refine lv rfl rfl (vm rfl) (lv rfl rfl (vm rfl) ?_)
      obtain ⟨c1, c0, f6, l1, k0, Hq⟩ := H
      subst f6
      have H := Hq; clear Hq
      refine lv rfl rfl (v := (ptr c1 (c0 + (Int.toNat a0) * 2))) (vi TyTF.el22 rfl rfl l1 k0) (lv rfl rfl (v := (ptr c1 ((c0 + (Int.toNat a0) * 2) + 1))) (vf TyTF.fld34_1 (b := c1) (o := c0 + (Int.toNat a0) * 2) rfl) ?_)
      obtain ⟨x, d3, d4, j5, H⟩ := H
      refine lv rfl rfl (vl TyTF.agg32 rfl j5) (lv rfl rfl (vm rfl) ?_)
      refine lp rfl rfl (sc TyTF.cb22 rfl (HC.mono H ?_))
      rintro _ e4 ⟨l2, d1, c2, d0, rfl, H⟩
      refine lv rfl rfl (va rfl) ?_
      refine ln (qn (xs (xs (xr ?_))))
      refine lv rfl rfl (vm rfl) (lv rfl rfl (v := (.int .i64 (c2 : Int))) (hv_len (n := c2) TyTF.u32 rfl) (lv rfl rfl (vr rfl rfl rfl) ?_))
      refine ln (qn ?_)
      refine xc (b := (c2 : Int) == 0) rfl (fun f8 => ?_) (fun f8 => ?_)
      ·replace H := H.1 f8
       refine xs (xr ?_)
       refine lv rfl rfl (vm rfl) (lv rfl rfl (va rfl) (lv rfl rfl (va rfl) ?_))
       refine ln (qn (xt (qr ?_)))
       exact endQ_ret _ (res_two Try.results14 (rv_tmp rfl) (rv_tmp rfl)) H
      ·replace H := H.2 f8
       refine xi (qn (xs (xs (xr ?_))))
       refine lv rfl rfl (vm rfl) (lv rfl rfl (vr rfl rfl rfl) ?_)
       refine ln (qn ?_)
       refine xc (b := a4 == 18446744073709551615) rfl (fun g5 => ?_) (fun g5 => ?_)
       ·replace H := H.1 g5
        refine xs (xr ?_)
        refine lv rfl rfl (va rfl) (lv rfl rfl (va rfl) ?_)
        refine ln (qn (xt (qr ?_)))
        exact endQ_ret _ (res_two Try.results14 (rv_tmp rfl) (rv_tmp rfl)) H
       ·replace H := H.2 g5
        refine xi (qn (xs (xr ?_)))
        refine lv rfl rfl (vm rfl) (lv rfl rfl (vm rfl) (lv rfl rfl (vr rfl rfl rfl) (lv rfl rfl (vm rfl) (lv rfl rfl (v := (.agg #[(.int .u64 (IntKind.u64.wrap (a4 + 1))), (.slice d1 c2 d0)])) (vb (vs := [(0, (.int .u64 (IntKind.u64.wrap (a4 + 1)))), (1, (.slice d1 c2 d0))]) (cs := #[(.int .u64 (IntKind.u64.wrap (a4 + 1))), (.slice d1 c2 d0)]) TyTF.z34 TyTF.pl34 rfl (by kernel_rfl)) ?_))))
        refine lp rfl rfl (hn_buildSlice (n := 1) (vs := [(0, (.agg #[(.int .u64 (IntKind.u64.wrap (a4 + 1))), (.slice d1 c2 d0)]))]) (cs := #[(.int .u64 (IntKind.u64.wrap (a4 + 1))), (.slice d1 c2 d0)]) TyTF.u22 TyTF.sz34 TyTF.z34 rfl rfl (by kernel_rfl) ?_)
        intro nb f2 j3 g8
        replace H := H nb f2 j3 g8
        have l4 := ext_pushed_f7_sh g8
        refine lp rfl rfl (hs_append rfl rfl (HAppend.mono H ?_))
        rintro _ i9 ⟨ap, b9, b8, rfl, H⟩
        refine lv rfl rfl (va rfl) (lv rfl rfl (va rfl) ?_)
        refine ln (qn (xt ?_))
        exact endQ_ret _ (res_two Try.results14 (rv_tmp rfl) (rv_tmp rfl)) H
theorem f15_sh (l : Option Addr) (b7 : Nat) (b9 : Nat) (h : Heap) (R : Value → Heap → Prop)
  (H : HC Try.prog 31 #[(.slice l b7 b9)] h (fun vv h1 => Ext h h1 ∧ ∃ r : Option Addr, ∃ a9 c2 : Nat, vv = (.slice r a9 c2) ∧ (∃ (I2 : Option Addr → Nat → Nat → Int → Heap → Prop) (c1 : Option Addr → Nat → Nat → Int → Heap → Nat), I2 none 0 0 0 h1 ∧ (∀ (b0 : Option Addr) (a6 : Nat) (a7 : Nat) (v : Int) (h2 : Heap), I2 b0 a6 a7 v h2 → (((decide (v < (a9 : Int))) = true → (∃ b8 : Option Addr → Nat → Nat → Heap → Prop, (∃ b3 b2 : Nat, r = some ⟨b3, b2, none⟩ ∧ (0 : Int) ≤ v ∧ v < (a9 : Int) ∧ (∃ a1 a5 : Int, ∃ a2 a0 : ByteArray, hcell h2 b3 (b2 + (Int.toNat v) * 4) = some (.int .i64 a1) ∧ hcell h2 b3 ((b2 + (Int.toNat v) * 4) + 1) = some (.int .u64 a5) ∧ hcell h2 b3 ((b2 + (Int.toNat v) * 4) + 2) = some (.string a2) ∧ hcell h2 b3 ((b2 + (Int.toNat v) * 4) + 3) = some (.string a0) ∧ (((a1 == 1) = true → (∀ (h5 : Heap), Ext h2 h5 → (∀ nb h6, nb = Array.size h5 → h6 = Array.push h5 (.cells #[(.string a2), (.string a0)] 43) → HAppend Try.prog 39 39 (.slice b0 a6 a7) (.slice (some ⟨nb, 0, none⟩) 1 1) h6 (fun vv h7 => ∃ ap : Option Addr, ∃ b4 b5 : Nat, vv = (.slice ap b4 b5) ∧ (b8 ap b4 b5 h7))))) ∧ ((a1 == 1) = false → (∀ (h5 : Heap), Ext h2 h5 → (b8 b0 a6 a7 h5)))))) ∧ (∀ (a8 : Option Addr) (a4 : Nat) (a3 : Nat) (h3 : Heap), b8 a8 a4 a3 h3 → (I2 a8 a4 a3 (IntKind.i64.wrap (v + 1)) h3 ∧ c1 a8 a4 a3 (IntKind.i64.wrap (v + 1)) h3 < c1 b0 a6 a7 v h2)))) ∧ ((decide (v < (a9 : Int))) = false → R (.slice b0 a6 a7) h2)))))) :
  HC Try.prog 15 #[(.slice l b7 b9)] h R := by
 refine hc_of (args := [(.slice l b7 b9)]) Try.func15 rfl Try.ntmps15 (Nat.le_of_ble_eq_true rfl) ?_
 refine xs (xr ?_)
 refine lv rfl rfl (va rfl) ?_
 refine ln (qn (xs (xr ?_)))
 refine lv rfl rfl (va rfl) ?_
 refine ln (qn (xs (xs (xr ?_))))
 refine lv rfl rfl (vm rfl) ?_
 refine lp rfl rfl (sc TyTF.cb31 rfl (HC.mono H ?_))
 rintro _ h1 ⟨e7, r, a9, c2, rfl, H⟩
 refine lv rfl rfl (v := (.int .i64 (a9 : Int))) (hv_len (n := a9) TyTF.u32 rfl) (lv rfl rfl (vm rfl) ?_)
 refine ln (qn (xb ?_))
 obtain ⟨I2, c1, e2, e5⟩ := H
 refine xl (σ := Option Addr × Nat × Nat × Int) (fun s => [(3, (.slice s.1 s.2.1 s.2.2.1)), (7, (.slice r a9 c2)), (8, (.int .i64 (a9 : Int))), (9, (.int .i64 s.2.2.2))]) (fun s h' => I2 s.1 s.2.1 s.2.2.1 s.2.2.2 h' ∧ True) (fun s h' => c1 s.1 s.2.1 s.2.2.1 s.2.2.2 h') (none, 0, 0, 0) ⟨e2, trivial⟩ (hc rfl (hc rfl (hc rfl (hc rfl hn)))) ?_
 rintro ⟨b0, a6, a7, v⟩ ρ h2 ⟨e4, -⟩
 have H := e5 b0 a6 a7 v h2 e4
 refine xs (xr ?_)
 refine lv rfl rfl (vr rfl rfl rfl) ?_
 refine ln (qn (xs ?_))
 refine xc (b := decide (v < (a9 : Int))) rfl (fun c7 => ?_) (fun c7 => ?_)
 ·replace H := H.1 c7
  refine xi (qn ?_)
  obtain ⟨b8, c4, d0⟩ := H
  refine xk (fun ρ h' => ∃ a8 : Option Addr, ∃ a4 a3 : Nat, (b8 a8 a4 a3 h' ∧ True) ∧ Has ρ [(3, (.slice a8 a4 a3)), (7, (.slice r a9 c2)), (8, (.int .i64 (a9 : Int))), (9, (.int .i64 v))]) ?_ ?_
  ·have H := c4; clear c4 d0
   refine xb (xs (xr ?_))
   obtain ⟨b3, b2, e3, d6, d4, Hq⟩ := H
   subst e3
   have H := Hq; clear Hq
   refine lv rfl rfl (v := (ptr b3 (b2 + (Int.toNat v) * 4))) (vi TyTF.el32 rfl rfl d6 d4) ?_
   obtain ⟨a1, a5, a2, a0, e0, d8, d2, d7, H⟩ := H
   refine lv rfl rfl (vL (vs := [(.int .i64 a1), (.int .u64 a5), (.string a2), (.string a0)]) TyTF.agg36 TyTF.sz36 rfl (cc e0 (cc d8 (cc d2 (cc d7 cn))))) ?_
   refine lp rfl rfl (hn_alloc TyTF.z36 ?_)
   intro b1 h4 c3 c8
   have e1 := ext_pushed_f7_sh c8
   have d9 : Array.size h2 ≤ b1 := Nat.le_of_eq (Eq.symm c3)
   have d1 : h4[b1]? = some (.cells #[(.int .i64 0), (.int .u64 0), (.string ByteArray.empty), (.string ByteArray.empty)] 36 (0, 0)) := by rw [c8]; exact push_new c3
   refine lp rfl rfl (hn_stores (vs := [(.int .i64 a1), (.int .u64 a5), (.string a2), (.string a0)]) rfl rfl TyTF.sz36 rfl (HWs_row d1 (by simp)) ?_)
   intro h5 c5
   have b6 : h5[b1]? = some (.cells #[(.int .i64 a1), (.int .u64 a5), (.string a2), (.string a0)] 36 (0, 0)) := row_hsets_eq c5 d1 rfl
   have c9 := ext_hsets c5 e1 d9
   refine ln (qn (xs (xr ?_)))
   refine lv rfl rfl (v := (ptr b1 0)) (vf TyTF.fld36_0 (b := b1) (o := 0) rfl) (lv rfl rfl (vl TyTF.agg3 rfl (rc b6 rfl)) (lv rfl rfl (vr rfl rfl rfl) ?_))
   refine ln (qn ?_)
   refine xc (b := a1 == 1) rfl (fun c0 => ?_) (fun c0 => ?_)
   ·replace H := H.1 c0
    refine xr ?_
    refine lv rfl rfl (vm rfl) (lv rfl rfl (v := (ptr b1 2)) (vf TyTF.fld36_2 (b := b1) (o := 0) rfl) (lv rfl rfl (vl TyTF.agg9 rfl (rc b6 rfl)) (lv rfl rfl (v := (ptr b1 3)) (vf TyTF.fld36_3 (b := b1) (o := 0) rfl) (lv rfl rfl (vl TyTF.agg9 rfl (rc b6 rfl)) (lv rfl rfl (v := (.agg #[(.string a2), (.string a0)])) (vb (vs := [(0, (.string a2)), (1, (.string a0))]) (cs := #[(.string a2), (.string a0)]) TyTF.z43 TyTF.pl43 rfl (by kernel_rfl)) ?_)))))
    replace H := H h5 c9
    refine lp rfl rfl (hn_buildSlice (n := 1) (vs := [(0, (.agg #[(.string a2), (.string a0)]))]) (cs := #[(.string a2), (.string a0)]) TyTF.u39 TyTF.sz43 TyTF.z43 rfl rfl (by kernel_rfl) ?_)
    intro nb h6 d3 c6
    replace H := H nb h6 d3 c6
    have e6 := ext_pushed_f7_sh c6
    refine lp rfl rfl (hs_append rfl rfl (HAppend.mono H ?_))
    rintro _ h7 ⟨ap, b4, b5, rfl, H⟩
    refine lv rfl rfl (va rfl) ?_
    refine ln (bn (qn ?_))
    exact ⟨_, _, _, ⟨H, trivial⟩, (hc rfl (hc rfl (hc rfl (hc rfl hn))))⟩
   ·replace H := H.2 c0
    refine xi (bn ?_)
    replace H := H h5 c9
    refine qn ?_
    exact ⟨_, _, _, ⟨H, trivial⟩, (hc rfl (hc rfl (hc rfl (hc rfl hn))))⟩
  ·rintro ρ h3 ⟨a8, a4, a3, ⟨d5, -⟩, hH⟩
   have H := d0 a8 a4 a3 h3 d5; clear c4 d0
   refine xh _ hH ?_
   refine xr ?_
   refine lv rfl rfl (vr rfl rfl rfl) (lv rfl rfl (vm rfl) ?_)
   refine ln (qn ?_)
   exact ⟨(a8, a4, a3, IntKind.i64.wrap (v + 1)), ⟨⟨H.1, trivial⟩, H.2⟩, (hc rfl (hc rfl (hc rfl (hc rfl hn))))⟩
 ·replace H := H.2 c7
  refine xe (qe (qe (bh (qn (xs (xr ?_))))))
  refine lv rfl rfl (vm rfl) (lv rfl rfl (va rfl) ?_)
  refine ln (qn (xt ?_))
  exact endQ_ret _ (res_one Try.results15 (rv_tmp rfl)) H
theorem f31_sh (l : Option Addr) (b2 : Nat) (b3 : Nat) (h : Heap) (R : Value → Heap → Prop)
  (H : HC Try.prog 47 #[(.slice l b2 b3)] h (fun vv h1 => Ext h h1 ∧ ∃ r : Option Nat, vv = (.map r) ∧ HC Try.prog 48 #[(.map r)] h1 (fun vv h2 => ∃ b4 : Value, vv = b4 ∧ HC Try.prog 38 #[b4] h2 (fun vv h3 => ∃ b6 : Option Addr, ∃ a5 c1 : Nat, vv = (.slice b6 a5 c1) ∧ (∃ (I2 : Option Addr → Nat → Nat → Int → Heap → Prop) (b5 : Option Addr → Nat → Nat → Int → Heap → Nat), I2 none 0 0 0 h3 ∧ (∀ (a7 : Option Addr) (a1 : Nat) (a2 : Nat) (v : Int) (h4 : Heap), I2 a7 a1 a2 v h4 → (((decide (v < (a5 : Int))) = true → (∃ b0 b1 : Nat, b6 = some ⟨b0, b1, none⟩ ∧ (0 : Int) ≤ v ∧ v < (a5 : Int) ∧ (∃ x : ByteArray, hcell h4 b0 (b1 + (Int.toNat v) * 1) = some (.string x) ∧ (∃ b9 : Nat, r = some b9 ∧ ∃ kv : List (ByteArray × Value), MapL h4 b9 Value.string kv ∧ ∃ a4 a0 : Int, ∃ a6 a3 : ByteArray, (lk kv x).getD (.agg #[(.int .i64 0), (.int .u64 0), (.string ByteArray.empty), (.string ByteArray.empty)]) = (.agg #[(.int .i64 a4), (.int .u64 a0), (.string a6), (.string a3)]) ∧ (∀ nb h5, nb = Array.size h4 → h5 = Array.push h4 (.cells #[(.int .i64 a4), (.int .u64 a0), (.string a6), (.string a3)] 36) → HAppend Try.prog 32 32 (.slice a7 a1 a2) (.slice (some ⟨nb, 0, none⟩) 1 1) h5 (fun vv h6 => ∃ ap : Option Addr, ∃ a8 a9 : Nat, vv = (.slice ap a8 a9) ∧ (I2 ap a8 a9 (IntKind.i64.wrap (v + 1)) h6 ∧ b5 ap a8 a9 (IntKind.i64.wrap (v + 1)) h6 < b5 a7 a1 a2 v h4))))))) ∧ ((decide (v < (a5 : Int))) = false → R (.slice a7 a1 a2) h4)))))))) :
  HC Try.prog 31 #[(.slice l b2 b3)] h R := by
 refine hc_of (args := [(.slice l b2 b3)]) Try.func31 rfl Try.ntmps31 (Nat.le_of_ble_eq_true rfl) ?_
 refine xs (xr ?_)
 refine lv rfl rfl (va rfl) ?_
 refine ln (qn (xs (xr ?_)))
 refine lv rfl rfl (vm rfl) ?_
 refine lp rfl rfl (sc TyTF.cb47 rfl (HC.mono H ?_))
 rintro _ h1 ⟨d2, r, rfl, H⟩
 refine lv rfl rfl (va rfl) ?_
 refine ln (qn (xs (xr ?_)))
 refine lv rfl rfl (va rfl) ?_
 refine ln (qn (xs (xs (xr ?_))))
 refine lv rfl rfl (vm rfl) ?_
 refine lp rfl rfl (sc TyTF.cb48 rfl (HC.mono H ?_))
 rintro b4 h2 ⟨_, rfl, H⟩
 refine lp rfl rfl (sc TyTF.cb38 rfl (HC.mono H ?_))
 rintro _ h3 ⟨b6, a5, c1, rfl, H⟩
 refine lv rfl rfl (v := (.int .i64 (a5 : Int))) (hv_len (n := a5) TyTF.u82 rfl) (lv rfl rfl (vm rfl) ?_)
 refine ln (qn (xb ?_))
 obtain ⟨I2, b5, c6, d0⟩ := H
 refine xl (σ := Option Addr × Nat × Nat × Int) (fun s => [(3, (.map r)), (4, (.slice s.1 s.2.1 s.2.2.1)), (11, (.slice b6 a5 c1)), (12, (.int .i64 (a5 : Int))), (13, (.int .i64 s.2.2.2))]) (fun s h' => I2 s.1 s.2.1 s.2.2.1 s.2.2.2 h' ∧ True) (fun s h' => b5 s.1 s.2.1 s.2.2.1 s.2.2.2 h') (none, 0, 0, 0) ⟨c6, trivial⟩ (hc rfl (hc rfl (hc rfl (hc rfl (hc rfl hn))))) ?_
 rintro ⟨a7, a1, a2, v⟩ ρ h4 ⟨c9, -⟩
 have H := d0 a7 a1 a2 v h4 c9
 refine xs (xr ?_)
 refine lv rfl rfl (vr rfl rfl rfl) ?_
 refine ln (qn (xs ?_))
 refine xc (b := decide (v < (a5 : Int))) rfl (fun c0 => ?_) (fun c0 => ?_)
 ·replace H := H.1 c0
  refine xi (qn (xs (xb (xs (xr ?_)))))
  obtain ⟨b0, b1, b7, c7, c8, Hq⟩ := H
  subst b7
  have H := Hq; clear Hq
  refine lv rfl rfl (v := (ptr b0 (b1 + (Int.toNat v) * 1))) (vi TyTF.el82 rfl rfl c7 c8) ?_
  obtain ⟨x, c5, H⟩ := H
  refine lv rfl rfl (vl TyTF.agg9 rfl c5) (lv rfl rfl (va rfl) ?_)
  refine ln (qn (xr ?_))
  refine lv rfl rfl (vm rfl) (lv rfl rfl (vm rfl) (lv rfl rfl (vm rfl) ?_))
  obtain ⟨b9, b7, Hq⟩ := H
  subst b7
  have H := Hq; clear Hq
  obtain ⟨kv, c2, a4, a0, a6, a3, c3, H⟩ := H
  refine lv rfl rfl (v := (.agg #[(.int .i64 a4), (.int .u64 a0), (.string a6), (.string a3)])) (hv_look (l := kv) (a := x) strK TyTF.u92 TyTF.u9 TyTF.z36 rfl rfl c2 c3) ?_
  refine lp rfl rfl (hn_buildSlice (n := 1) (vs := [(0, (.agg #[(.int .i64 a4), (.int .u64 a0), (.string a6), (.string a3)]))]) (cs := #[(.int .i64 a4), (.int .u64 a0), (.string a6), (.string a3)]) TyTF.u32 TyTF.sz36 TyTF.z36 rfl rfl (by kernel_rfl) ?_)
  intro nb h5 c4 b8
  replace H := H nb h5 c4 b8
  have d1 := ext_pushed_f7_sh b8
  refine lp rfl rfl (hs_append rfl rfl (HAppend.mono H ?_))
  rintro _ h6 ⟨ap, a8, a9, rfl, H⟩
  refine lv rfl rfl (va rfl) ?_
  refine ln (bn (qn (xr ?_)))
  refine lv rfl rfl (vr rfl rfl rfl) (lv rfl rfl (vm rfl) ?_)
  refine ln (qn ?_)
  exact ⟨(ap, a8, a9, IntKind.i64.wrap (v + 1)), ⟨⟨H.1, trivial⟩, H.2⟩, (hc rfl (hc rfl (hc rfl (hc rfl (hc rfl hn)))))⟩
 ·replace H := H.2 c0
  refine xe (qe (qe (bh (qn (xs (xr ?_))))))
  refine lv rfl rfl (vm rfl) (lv rfl rfl (va rfl) ?_)
  refine ln (qn (xt ?_))
  exact endQ_ret _ (res_one Try.results31 (rv_tmp rfl)) H
theorem f9_sh  (h : Heap) (R : Value → Heap → Prop)
  (H : HC Try.prog 23 #[] h (fun vv h1 => Ext h h1 ∧ ∃ r : Option Addr, ∃ b8 b6 : Nat, vv = (.slice r b8 b6) ∧ HC Try.prog 13 #[(.slice r b8 b6), (.int .i64 1), (.int .i64 64), (.int .i64 2)] h1 (fun vv h2 => Ext h1 h2 ∧ ∃ r0 : Option Addr, ∃ a0 a3 : Nat, ∃ r1 : Int, vv = (.tuple #[(.slice r0 a0 a3), (.int .i64 r1)]) ∧ (∃ A5 : Bool → Heap → Prop, HC Try.prog 23 #[] h2 (fun vv h4 => Ext h2 h4 ∧ ∃ b4 : Option Addr, ∃ b2 a9 : Nat, vv = (.slice b4 b2 a9) ∧ HC Try.prog 15 #[(.slice b4 b2 a9)] h4 (fun vv h5 => Ext h4 h5 ∧ ∃ b7 : Option Addr, ∃ b0 b1 : Nat, vv = (.slice b7 b0 b1) ∧ (∀ nb h6, nb = Array.size h5 → h6 = Array.push h5 (.cells #[(.string (ByteArray.mk #[107])), (.string (ByteArray.mk #[98]))] 43) → (∃ b3 : Bool, HC Try.prog 24 #[(.slice b7 b0 b1), (.slice (some ⟨nb, 0, none⟩) 1 1)] h6 (fun vv h' => vv = (.bool b3) ∧ h' = h6) ∧ ((b3 = true → (((r1 == 0) = true → ((((a0 : Int) == 2) = true → (∃ a6 a7 : Nat, r0 = some ⟨a6, a7, none⟩ ∧ (0 : Int) ≤ 1 ∧ 1 < (a0 : Int) ∧ (∃ x : Int, hcell h6 a6 (a7 + (Int.toNat 1) * 2) = some (.int .u64 x) ∧ (((x == 3) = true → HC Try.prog 15 #[(.slice (some ⟨a6, a7, none⟩) a0 a3)] h6 (fun vv h7 => Ext h6 h7 ∧ ∃ c2 : Option Addr, ∃ a5 b5 : Nat, vv = (.slice c2 a5 b5) ∧ (A5 ((a5 : Int) == 0) h7))) ∧ ((x == 3) = false → (A5 false h6)))))) ∧ (((a0 : Int) == 2) = false → (A5 false h6)))) ∧ ((r1 == 0) = false → (A5 false h6)))) ∧ (b3 = false → (A5 false h6))))))) ∧ (∀ (j : Bool) (h3 : Heap), A5 j h3 → R (.bool j) h3))))) :
  HC Try.prog 9 #[] h R := by
 refine hc_of (args := []) Try.func9 rfl Try.ntmps9 (Nat.le_of_ble_eq_true rfl) ?_
 refine xs (xr ?_)
 refine lv rfl rfl (va rfl) ?_
 refine ln (qn (xs (xr ?_)))
 refine lp rfl rfl (sc TyTF.cb23 rfl (HC.mono H ?_))
 rintro _ h1 ⟨d5, r, b8, b6, rfl, H⟩
 refine lp rfl rfl (sc TyTF.cb13 rfl (HC.mono H ?_))
 rintro _ h2 ⟨d2, r0, a0, a3, r1, rfl, H⟩
 refine lv rfl rfl (vm rfl) (lv rfl rfl (vx rfl rfl) (lv rfl rfl (vx rfl rfl) (lv rfl rfl (va rfl) (lv rfl rfl (va rfl) ?_))))
 refine ln (qn ?_)
 obtain ⟨A5, c1, b9⟩ := H
 refine xk (fun ρ h' => ∃ j : Bool, (A5 j h' ∧ True) ∧ Has ρ [(0, (.bool j))]) ?_ ?_
 ·have H := c1; clear c1 b9
  refine xr ?_
  refine lp rfl rfl (sc TyTF.cb23 rfl (HC.mono H ?_))
  rintro _ h4 ⟨d3, b4, b2, a9, rfl, H⟩
  refine lp rfl rfl (sc TyTF.cb15 rfl (HC.mono H ?_))
  rintro _ h5 ⟨d4, b7, b0, b1, rfl, H⟩
  refine lv rfl rfl (v := (.agg #[(.string (ByteArray.mk #[107])), (.string (ByteArray.mk #[98]))])) (vb (vs := [(0, (.string (ByteArray.mk #[107]))), (1, (.string (ByteArray.mk #[98])))]) (cs := #[(.string (ByteArray.mk #[107])), (.string (ByteArray.mk #[98]))]) TyTF.z43 TyTF.pl43 rfl (by kernel_rfl)) ?_
  refine lp rfl rfl (hn_buildSlice (n := 1) (vs := [(0, (.agg #[(.string (ByteArray.mk #[107])), (.string (ByteArray.mk #[98]))]))]) (cs := #[(.string (ByteArray.mk #[107])), (.string (ByteArray.mk #[98]))]) TyTF.u39 TyTF.sz43 TyTF.z43 rfl rfl (by kernel_rfl) ?_)
  intro nb h6 c9 c0
  replace H := H nb h6 c9 c0
  have d1 := ext_pushed_f7_sh c0
  obtain ⟨b3, c6, H⟩ := H
  refine lv rfl rfl (hv_call TyTF.cb24 (vs := [(.slice b7 b0 b1), (.slice (some ⟨nb, 0, none⟩) 1 1)]) rfl c6) (lv rfl rfl (vm rfl) ?_)
  rcases bool_or (b3) with a8 | a8
  ·replace H := H.1 a8
   refine ly (wanted_y rfl rfl rfl a8) rfl (HStep.of_val (v := (.int .i64 r1)) (vm rfl) ?_)
   refine ly (wanted_y rfl rfl rfl a8) rfl (HStep.of_val (v := (.bool (r1 == 0))) (vr rfl rfl rfl) ?_)
   refine lv rfl rfl (v := (.bool (r1 == 0))) (hv_pick_t rfl a8 rfl) (lv rfl rfl (vm rfl) ?_)
   rcases bool_or (r1 == 0) with a4 | a4
   ·replace H := H.1 a4
    refine ly (wanted_y rfl rfl rfl a4) rfl (HStep.of_val (v := (.slice r0 a0 a3)) (vm rfl) ?_)
    refine ly (wanted_y rfl rfl rfl a4) rfl (HStep.of_val (v := (.int .i64 (a0 : Int))) (hv_len (n := a0) TyTF.u22 rfl) ?_)
    refine ly (wanted_y rfl rfl rfl a4) rfl (HStep.of_val (v := (.bool ((a0 : Int) == 2))) (vr rfl rfl rfl) ?_)
    refine lv rfl rfl (v := (.bool ((a0 : Int) == 2))) (hv_pick_t rfl a4 rfl) (lv rfl rfl (vm rfl) ?_)
    rcases bool_or ((a0 : Int) == 2) with a1 | a1
    ·replace H := H.1 a1
     refine ly (wanted_y rfl rfl rfl a1) rfl (HStep.of_val (v := (.slice r0 a0 a3)) (vm rfl) ?_)
     obtain ⟨a6, a7, c7, c4, c5, Hq⟩ := H
     subst c7
     have H := Hq; clear Hq
     refine ly (wanted_y rfl rfl rfl a1) rfl (HStep.of_val (v := (ptr a6 (a7 + (Int.toNat 1) * 2))) (vi TyTF.el22 rfl rfl c4 c5) ?_)
     refine ly (wanted_y rfl rfl rfl a1) rfl (HStep.of_val (v := (ptr a6 (a7 + (Int.toNat 1) * 2))) (vf TyTF.fld34_0 (b := a6) (o := a7 + (Int.toNat 1) * 2) rfl) ?_)
     obtain ⟨x, c3, H⟩ := H
     refine ly (wanted_y rfl rfl rfl a1) rfl (HStep.of_val (v := (.int .u64 x)) (vl TyTF.agg31 rfl c3) ?_)
     refine ly (wanted_y rfl rfl rfl a1) rfl (HStep.of_val (v := (.bool (x == 3))) (vr rfl rfl rfl) ?_)
     refine lv rfl rfl (v := (.bool (x == 3))) (hv_pick_t rfl a1 rfl) (lv rfl rfl (vm rfl) ?_)
     rcases bool_or (x == 3) with a2 | a2
     ·replace H := H.1 a2
      refine ly (wanted_y rfl rfl rfl a2) rfl (HStep.of_val (v := (.slice (some ⟨a6, a7, none⟩) a0 a3)) (vm rfl) ?_)
      refine ly (wanted_y rfl rfl rfl a2) rfl (sc TyTF.cb15 rfl (HC.mono H ?_))
      rintro _ h7 ⟨d0, c2, a5, b5, rfl, H⟩
      refine ly (wanted_y rfl rfl rfl a2) rfl (HStep.of_val (v := (.int .i64 (a5 : Int))) (hv_len (n := a5) TyTF.u39 rfl) ?_)
      refine ly (wanted_y rfl rfl rfl a2) rfl (HStep.of_val (v := (.bool ((a5 : Int) == 0))) (vr rfl rfl rfl) ?_)
      refine lv rfl rfl (v := (.bool ((a5 : Int) == 0))) (hv_pick_t rfl a2 rfl) (lv rfl rfl (va rfl) ?_)
      refine ln (qn ?_)
      exact ⟨_, ⟨H, trivial⟩, (hc rfl hn)⟩
     ·replace H := H.2 a2
      refine lo (wanted_n rfl rfl rfl a2) rfl ?_
      refine lo (wanted_n rfl rfl rfl a2) rfl ?_
      refine lo (wanted_n rfl rfl rfl a2) rfl ?_
      refine lo (wanted_n rfl rfl rfl a2) rfl ?_
      refine lv rfl rfl (v := (.bool false)) (hv_pick_f rfl a2 rfl) (lv rfl rfl (va rfl) ?_)
      refine ln (qn ?_)
      exact ⟨_, ⟨H, trivial⟩, (hc rfl hn)⟩
    ·replace H := H.2 a1
     refine lo (wanted_n rfl rfl rfl a1) rfl ?_
     refine lo (wanted_n rfl rfl rfl a1) rfl ?_
     refine lo (wanted_n rfl rfl rfl a1) rfl ?_
     refine lo (wanted_n rfl rfl rfl a1) rfl ?_
     refine lo (wanted_n rfl rfl rfl a1) rfl ?_
     refine lv rfl rfl (v := (.bool false)) (hv_pick_f rfl a1 rfl) (lv rfl rfl (vm rfl) ?_)
     refine lo (wanted_n rfl rfl (c := false) rfl rfl) rfl ?_
     refine lo (wanted_n rfl rfl (c := false) rfl rfl) rfl ?_
     refine lo (wanted_n rfl rfl (c := false) rfl rfl) rfl ?_
     refine lo (wanted_n rfl rfl (c := false) rfl rfl) rfl ?_
     refine lv rfl rfl (v := (.bool false)) (hv_pick (t := false) rfl rfl) (lv rfl rfl (va rfl) ?_)
     refine ln (qn ?_)
     exact ⟨_, ⟨H, trivial⟩, (hc rfl hn)⟩
   ·replace H := H.2 a4
    refine lo (wanted_n rfl rfl rfl a4) rfl ?_
    refine lo (wanted_n rfl rfl rfl a4) rfl ?_
    refine lo (wanted_n rfl rfl rfl a4) rfl ?_
    refine lv rfl rfl (v := (.bool false)) (hv_pick_f rfl a4 rfl) (lv rfl rfl (vm rfl) ?_)
    refine lo (wanted_n rfl rfl (c := false) rfl rfl) rfl ?_
    refine lo (wanted_n rfl rfl (c := false) rfl rfl) rfl ?_
    refine lo (wanted_n rfl rfl (c := false) rfl rfl) rfl ?_
    refine lo (wanted_n rfl rfl (c := false) rfl rfl) rfl ?_
    refine lo (wanted_n rfl rfl (c := false) rfl rfl) rfl ?_
    refine lv rfl rfl (v := (.bool false)) (hv_pick (t := false) rfl rfl) (lv rfl rfl (vm rfl) ?_)
    refine lo (wanted_n rfl rfl (c := false) rfl rfl) rfl ?_
    refine lo (wanted_n rfl rfl (c := false) rfl rfl) rfl ?_
    refine lo (wanted_n rfl rfl (c := false) rfl rfl) rfl ?_
    refine lo (wanted_n rfl rfl (c := false) rfl rfl) rfl ?_
    refine lv rfl rfl (v := (.bool false)) (hv_pick (t := false) rfl rfl) (lv rfl rfl (va rfl) ?_)
    refine ln (qn ?_)
    exact ⟨_, ⟨H, trivial⟩, (hc rfl hn)⟩
  ·replace H := H.2 a8
   refine lo (wanted_n rfl rfl rfl a8) rfl ?_
   refine lo (wanted_n rfl rfl rfl a8) rfl ?_
   refine lv rfl rfl (v := (.bool false)) (hv_pick_f rfl a8 rfl) (lv rfl rfl (vm rfl) ?_)
   refine lo (wanted_n rfl rfl (c := false) rfl rfl) rfl ?_
   refine lo (wanted_n rfl rfl (c := false) rfl rfl) rfl ?_
   refine lo (wanted_n rfl rfl (c := false) rfl rfl) rfl ?_
   refine lv rfl rfl (v := (.bool false)) (hv_pick (t := false) rfl rfl) (lv rfl rfl (vm rfl) ?_)
   refine lo (wanted_n rfl rfl (c := false) rfl rfl) rfl ?_
   refine lo (wanted_n rfl rfl (c := false) rfl rfl) rfl ?_
   refine lo (wanted_n rfl rfl (c := false) rfl rfl) rfl ?_
   refine lo (wanted_n rfl rfl (c := false) rfl rfl) rfl ?_
   refine lo (wanted_n rfl rfl (c := false) rfl rfl) rfl ?_
   refine lv rfl rfl (v := (.bool false)) (hv_pick (t := false) rfl rfl) (lv rfl rfl (vm rfl) ?_)
   refine lo (wanted_n rfl rfl (c := false) rfl rfl) rfl ?_
   refine lo (wanted_n rfl rfl (c := false) rfl rfl) rfl ?_
   refine lo (wanted_n rfl rfl (c := false) rfl rfl) rfl ?_
   refine lo (wanted_n rfl rfl (c := false) rfl rfl) rfl ?_
   refine lv rfl rfl (v := (.bool false)) (hv_pick (t := false) rfl rfl) (lv rfl rfl (va rfl) ?_)
   refine ln (qn ?_)
   exact ⟨_, ⟨H, trivial⟩, (hc rfl hn)⟩
 ·rintro ρ h3 ⟨j, ⟨c8, -⟩, hH⟩
  have H := b9 j h3 c8; clear c1 b9
  refine xh _ hH ?_
  refine xt ?_
  exact endQ_ret _ (res_one Try.results9 (rv_tmp rfl)) H
theorem f3_sh (l : Option Addr) (a2 : Nat) (a3 : Nat) (h : Heap) (R : Value → Heap → Prop)
  (H : HC Try.prog 8 #[(.slice l a2 a3)] h (fun vv h1 => Ext h h1 ∧ ∃ r : Option Addr, ∃ a5 a4 : Nat, vv = (.slice r a5 a4) ∧ (∃ A4 : Bool → Heap → Prop, HC Try.prog 9 #[] h1 (fun vv h3 => Ext h1 h3 ∧ ∃ a8 : Bool, vv = (.bool a8) ∧ ((a8 = true → HC Try.prog 10 #[(.slice r a5 a4)] h3 (fun vv h4 => Ext h3 h4 ∧ ∃ a6 : Int, vv = (.int .i64 a6) ∧ HC Try.prog 11 #[(.slice l a2 a3)] h4 (fun vv h5 => Ext h4 h5 ∧ ∃ a7 : Int, vv = (.int .i64 a7) ∧ (((a6 == a7) = true → (∃ a9 : Bool, HC Try.prog 12 #[(.slice r a5 a4), (.slice l a2 a3)] h5 (fun vv h' => vv = (.bool a9) ∧ h' = h5) ∧ (A4 a9 h5))) ∧ ((a6 == a7) = false → (A4 false h5)))))) ∧ (a8 = false → (A4 false h3)))) ∧ (∀ (j : Bool) (h2 : Heap), A4 j h2 → R (.bool j) h2)))) :
  HC Try.prog 3 #[(.slice l a2 a3)] h R := by
 refine hc_of (args := [(.slice l a2 a3)]) Try.func3 rfl Try.ntmps3 (Nat.le_of_ble_eq_true rfl) ?_
 refine xs (xr ?_)
 refine lv rfl rfl (va rfl) ?_
 refine ln (qn (xs (xr ?_)))
 refine lv rfl rfl (vm rfl) ?_
 refine lp rfl rfl (sc TyTF.cb8 rfl (HC.mono H ?_))
 rintro _ h1 ⟨b7, r, a5, a4, rfl, H⟩
 refine lv rfl rfl (va rfl) ?_
 refine ln (qn ?_)
 obtain ⟨A4, b0, b1⟩ := H
 refine xk (fun ρ h' => ∃ j : Bool, (A4 j h' ∧ True) ∧ Has ρ [(2, (.bool j))]) ?_ ?_
 ·have H := b0; clear b0 b1
  refine xr ?_
  refine lp rfl rfl (sc TyTF.cb9 rfl (HC.mono H ?_))
  rintro _ h3 ⟨b4, a8, rfl, H⟩
  refine lv rfl rfl (vm rfl) ?_
  rcases bool_or (a8) with a1 | a1
  ·replace H := H.1 a1
   refine ly (wanted_y rfl rfl rfl a1) rfl (HStep.of_val (v := (.slice r a5 a4)) (vm rfl) ?_)
   refine ly (wanted_y rfl rfl rfl a1) rfl (sc TyTF.cb10 rfl (HC.mono H ?_))
   rintro _ h4 ⟨b6, a6, rfl, H⟩
   refine ly (wanted_y rfl rfl rfl a1) rfl (HStep.of_val (v := (.slice l a2 a3)) (vm rfl) ?_)
   refine ly (wanted_y rfl rfl rfl a1) rfl (sc TyTF.cb11 rfl (HC.mono H ?_))
   rintro _ h5 ⟨b5, a7, rfl, H⟩
   refine ly (wanted_y rfl rfl rfl a1) rfl (HStep.of_val (v := (.bool (a6 == a7))) (vr rfl rfl rfl) ?_)
   refine lv rfl rfl (v := (.bool (a6 == a7))) (hv_pick_t rfl a1 rfl) (lv rfl rfl (vm rfl) ?_)
   rcases bool_or (a6 == a7) with a0 | a0
   ·replace H := H.1 a0
    refine ly (wanted_y rfl rfl rfl a0) rfl (HStep.of_val (v := (.slice r a5 a4)) (vm rfl) ?_)
    refine ly (wanted_y rfl rfl rfl a0) rfl (HStep.of_val (v := (.slice l a2 a3)) (vm rfl) ?_)
    obtain ⟨a9, b2, H⟩ := H
    refine ly (wanted_y rfl rfl rfl a0) rfl (HStep.of_val (v := (.bool a9)) (hv_call TyTF.cb12 (vs := [(.slice r a5 a4), (.slice l a2 a3)]) rfl b2) ?_)
    refine lv rfl rfl (v := (.bool a9)) (hv_pick_t rfl a0 rfl) (lv rfl rfl (va rfl) ?_)
    refine ln (qn ?_)
    exact ⟨_, ⟨H, trivial⟩, (hc rfl hn)⟩
   ·replace H := H.2 a0
    refine lo (wanted_n rfl rfl rfl a0) rfl ?_
    refine lo (wanted_n rfl rfl rfl a0) rfl ?_
    refine lo (wanted_n rfl rfl rfl a0) rfl ?_
    refine lv rfl rfl (v := (.bool false)) (hv_pick_f rfl a0 rfl) (lv rfl rfl (va rfl) ?_)
    refine ln (qn ?_)
    exact ⟨_, ⟨H, trivial⟩, (hc rfl hn)⟩
  ·replace H := H.2 a1
   refine lo (wanted_n rfl rfl rfl a1) rfl ?_
   refine lo (wanted_n rfl rfl rfl a1) rfl ?_
   refine lo (wanted_n rfl rfl rfl a1) rfl ?_
   refine lo (wanted_n rfl rfl rfl a1) rfl ?_
   refine lo (wanted_n rfl rfl rfl a1) rfl ?_
   refine lv rfl rfl (v := (.bool false)) (hv_pick_f rfl a1 rfl) (lv rfl rfl (vm rfl) ?_)
   refine lo (wanted_n rfl rfl (c := false) rfl rfl) rfl ?_
   refine lo (wanted_n rfl rfl (c := false) rfl rfl) rfl ?_
   refine lo (wanted_n rfl rfl (c := false) rfl rfl) rfl ?_
   refine lv rfl rfl (v := (.bool false)) (hv_pick (t := false) rfl rfl) (lv rfl rfl (va rfl) ?_)
   refine ln (qn ?_)
   exact ⟨_, ⟨H, trivial⟩, (hc rfl hn)⟩
 ·rintro ρ h2 ⟨j, ⟨b3, -⟩, hH⟩
  have H := b1 j h2 b3; clear b0 b1
  refine xh _ hH ?_
  refine xt ?_
  exact endQ_ret _ (res_one Try.results3 (rv_tmp rfl)) H
theorem f4_sh (l : Option Addr) (a7 : Nat) (a8 : Nat) (b9 : Int) (b7 : Int) (a6 : Int) (h : Heap) (R : Value → Heap → Prop)
  (H : HC Try.prog 9 #[] h (fun vv h1 => Ext h h1 ∧ ∃ r : Bool, vv = (.bool r) ∧ (((!r) = true → R (.bool false) h1) ∧ ((!r) = false → HC Try.prog 8 #[(.slice l a7 a8)] h1 (fun vv h2 => Ext h1 h2 ∧ ∃ b1 : Option Addr, ∃ b0 a9 : Nat, vv = (.slice b1 b0 a9) ∧ HC Try.prog 13 #[(.slice b1 b0 a9), (.int .i64 b9), (.int .i64 b7), (.int .i64 a6)] h2 (fun vv h3 => Ext h2 h3 ∧ ∃ r0 : Option Addr, ∃ a0 a1 : Nat, ∃ r1 : Int, vv = (.tuple #[(.slice r0 a0 a1), (.int .i64 r1)]) ∧ HC Try.prog 14 #[(.slice l a7 a8), (.int .i64 b9), (.int .i64 b7), (.int .i64 a6)] h3 (fun vv h4 => Ext h3 h4 ∧ ∃ b3 : Option Addr, ∃ a2 a3 : Nat, ∃ a5 : Int, vv = (.tuple #[(.slice b3 a2 a3), (.int .i64 a5)]) ∧ (∃ j : Bool, (((r1 != a5) = true → (j = true)) ∧ ((r1 != a5) = false → (∃ b8 : Bool, HC Try.prog 12 #[(.slice r0 a0 a1), (.slice b3 a2 a3)] h4 (fun vv h' => vv = (.bool b8) ∧ h' = h4) ∧ (((!b8) = true → (j = true)) ∧ ((!b8) = false → (∃ c2 : Bool, HC Try.prog 12 #[(.slice b1 b0 a9), (.slice l a7 a8)] h4 (fun vv h' => vv = (.bool c2) ∧ h' = h4) ∧ (j = (!c2)))))))) ∧ ((j = true → R (.bool false) h4) ∧ (j = false → (∃ (c5 : Int → Heap → Prop) (c3 : Int → Heap → Nat), c5 0 h4 ∧ (∀ (i : Int) (h5 : Heap), c5 i h5 → (((decide (i < (a0 : Int))) = true → (∃ (c7 : Int → Heap → Prop) (c4 : Int → Heap → Nat), c7 0 h5 ∧ (∀ (k : Int) (h6 : Heap), c7 k h6 → (∃ b2 b4 : Nat, r0 = some ⟨b2, b4, none⟩ ∧ (0 : Int) ≤ i ∧ i < (a0 : Int) ∧ (∃ x : Option Addr, ∃ b6 d1 : Nat, hcell h6 b2 ((b4 + (Int.toNat i) * 2) + 1) = some (.slice x b6 d1) ∧ (((decide (k < (b6 : Int))) = true → (∃ c1 c0 : Nat, x = some ⟨c1, c0, none⟩ ∧ (0 : Int) ≤ k ∧ k < (b6 : Int) ∧ (HW h6 c1 ((c0 + (Int.toNat k) * 4) + 2) ∧ ∀ h7, h7 = hset h6 c1 ((c0 + (Int.toNat k) * 4) + 2) (.string (ByteArray.mk #[111, 116, 104, 101, 114])) → (c7 (IntKind.i64.wrap (k + 1)) h7 ∧ c4 (IntKind.i64.wrap (k + 1)) h7 < c4 k h6)))) ∧ ((decide (k < (b6 : Int))) = false → (c5 (IntKind.i64.wrap (i + 1)) h6 ∧ c3 (IntKind.i64.wrap (i + 1)) h6 < c3 i h5)))))))) ∧ ((decide (i < (a0 : Int))) = false → (∃ c6 : Bool, HC Try.prog 12 #[(.slice b1 b0 a9), (.slice l a7 a8)] h5 (fun vv h' => vv = (.bool c6) ∧ h' = h5) ∧ R (.bool c6) h5))))))))))))))) :
  HC Try.prog 4 #[(.slice l a7 a8), (.int .i64 b9), (.int .i64 b7), (.int .i64 a6)] h R := by
 refine hc_of (args := [(.slice l a7 a8), (.int .i64 b9), (.int .i64 b7), (.int .i64 a6)]) Try.func4 rfl Try.ntmps4 (Nat.le_of_ble_eq_true rfl) ?_
 refine xs (xr ?_)
 refine lv rfl rfl (va rfl) ?_
 refine ln (qn (xs (xs (xr ?_))))
 refine lp rfl rfl (sc TyTF.cb9 rfl (HC.mono H ?_))
 rintro _ h1 ⟨f5, r, rfl, H⟩
 refine lv rfl rfl (v := (.bool (!r))) (hv_not (b := r) rfl) ?_
 refine ln (qn ?_)
 refine xc (b := !r) rfl (fun d3 => ?_) (fun d3 => ?_)
 ·replace H := H.1 d3
  refine xs (xr ?_)
  refine lv rfl rfl (va rfl) ?_
  refine ln (qn (xt (qr ?_)))
  exact endQ_ret _ (res_one Try.results4 (rv_tmp rfl)) H
 ·replace H := H.2 d3
  refine xi (qn (xs (xr ?_)))
  refine lv rfl rfl (vm rfl) ?_
  refine lp rfl rfl (sc TyTF.cb8 rfl (HC.mono H ?_))
  rintro _ h2 ⟨f2, b1, b0, a9, rfl, H⟩
  refine lv rfl rfl (va rfl) ?_
  refine ln (qn (xs (xr ?_)))
  refine lv rfl rfl (vm rfl) (lv rfl rfl (vm rfl) (lv rfl rfl (vm rfl) (lv rfl rfl (vm rfl) ?_)))
  refine lp rfl rfl (sc TyTF.cb13 rfl (HC.mono H ?_))
  rintro _ h3 ⟨f4, r0, a0, a1, r1, rfl, H⟩
  refine lv rfl rfl (vm rfl) (lv rfl rfl (vx rfl rfl) (lv rfl rfl (vx rfl rfl) (lv rfl rfl (va rfl) (lv rfl rfl (va rfl) ?_))))
  refine ln (qn (xs (xr ?_)))
  refine lv rfl rfl (vm rfl) (lv rfl rfl (vm rfl) (lv rfl rfl (vm rfl) (lv rfl rfl (vm rfl) ?_)))
  refine lp rfl rfl (sc TyTF.cb14 rfl (HC.mono H ?_))
  rintro _ h4 ⟨f3, b3, a2, a3, a5, rfl, H⟩
  refine lv rfl rfl (vm rfl) (lv rfl rfl (vx rfl rfl) (lv rfl rfl (vx rfl rfl) (lv rfl rfl (va rfl) (lv rfl rfl (va rfl) ?_))))
  refine ln (qn (xs ?_))
  obtain ⟨j, d8, d7⟩ := H
  refine xk (fun ρ h' => h4 = h' ∧ Has ρ [(0, (.slice l a7 a8)), (9, (.slice b1 b0 a9)), (10, (.slice r0 a0 a1)), (50, (.bool j))]) ?_ ?_
  ·have H := d8; clear d8 d7
   refine xr ?_
   refine lv rfl rfl (vm rfl) (lv rfl rfl (vm rfl) (lv rfl rfl (vr rfl rfl rfl) (lv rfl rfl (vm rfl) ?_)))
   rcases bool_or (r1 != a5) with b5 | b5
   ·replace H := H.1 b5
    refine lo (wanted_n rfl rfl rfl b5) rfl ?_
    refine lo (wanted_n rfl rfl rfl b5) rfl ?_
    refine lo (wanted_n rfl rfl rfl b5) rfl ?_
    refine lo (wanted_n rfl rfl rfl b5) rfl ?_
    refine lv rfl rfl (v := (.bool true)) (hv_pick_t rfl b5 rfl) (lv rfl rfl (vm rfl) ?_)
    refine lo (wanted_n rfl rfl (c := true) rfl rfl) rfl ?_
    refine lo (wanted_n rfl rfl (c := true) rfl rfl) rfl ?_
    refine lo (wanted_n rfl rfl (c := true) rfl rfl) rfl ?_
    refine lo (wanted_n rfl rfl (c := true) rfl rfl) rfl ?_
    refine lv rfl rfl (v := (.bool true)) (hv_pick (t := true) rfl rfl) ?_
    refine ln (qn ?_)
    obtain rfl := H
    exact ⟨rfl, (hc rfl (hc rfl (hc rfl (hc rfl hn))))⟩
   ·replace H := H.2 b5
    refine ly (wanted_y rfl rfl rfl b5) rfl (HStep.of_val (v := (.slice r0 a0 a1)) (vm rfl) ?_)
    refine ly (wanted_y rfl rfl rfl b5) rfl (HStep.of_val (v := (.slice b3 a2 a3)) (vm rfl) ?_)
    obtain ⟨b8, f1, H⟩ := H
    refine ly (wanted_y rfl rfl rfl b5) rfl (HStep.of_val (v := (.bool b8)) (hv_call TyTF.cb12 (vs := [(.slice r0 a0 a1), (.slice b3 a2 a3)]) rfl f1) ?_)
    refine ly (wanted_y rfl rfl rfl b5) rfl (HStep.of_val (v := (.bool (!b8))) (hv_not (b := b8) rfl) ?_)
    refine lv rfl rfl (v := (.bool (!b8))) (hv_pick_f rfl b5 rfl) (lv rfl rfl (vm rfl) ?_)
    rcases bool_or (!b8) with a4 | a4
    ·replace H := H.1 a4
     refine lo (wanted_n rfl rfl rfl a4) rfl ?_
     refine lo (wanted_n rfl rfl rfl a4) rfl ?_
     refine lo (wanted_n rfl rfl rfl a4) rfl ?_
     refine lo (wanted_n rfl rfl rfl a4) rfl ?_
     refine lv rfl rfl (v := (.bool true)) (hv_pick_t rfl a4 rfl) ?_
     refine ln (qn ?_)
     obtain rfl := H
     exact ⟨rfl, (hc rfl (hc rfl (hc rfl (hc rfl hn))))⟩
    ·replace H := H.2 a4
     refine ly (wanted_y rfl rfl rfl a4) rfl (HStep.of_val (v := (.slice b1 b0 a9)) (vm rfl) ?_)
     refine ly (wanted_y rfl rfl rfl a4) rfl (HStep.of_val (v := (.slice l a7 a8)) (vm rfl) ?_)
     obtain ⟨c2, d9, H⟩ := H
     refine ly (wanted_y rfl rfl rfl a4) rfl (HStep.of_val (v := (.bool c2)) (hv_call TyTF.cb12 (vs := [(.slice b1 b0 a9), (.slice l a7 a8)]) rfl d9) ?_)
     refine ly (wanted_y rfl rfl rfl a4) rfl (HStep.of_val (v := (.bool (!c2))) (hv_not (b := c2) rfl) ?_)
     refine lv rfl rfl (v := (.bool (!c2))) (hv_pick_f rfl a4 rfl) ?_
     refine ln (qn ?_)
     obtain rfl := H
     exact ⟨rfl, (hc rfl (hc rfl (hc rfl (hc rfl hn))))⟩
  ·have H := d7; clear d8 d7
   rintro ρ _ ⟨rfl, hH⟩
   refine xh _ hH ?_
   refine xc (b := j) rfl (fun d0 => ?_) (fun d0 => ?_)
   ·replace H := H.1 d0
    refine xs (xr ?_)
    refine lv rfl rfl (va rfl) ?_
    refine ln (qn (xt (qr ?_)))
    exact endQ_ret _ (res_one Try.results4 (rv_tmp rfl)) H
   ·replace H := H.2 d0
    refine xi (qn (xs (xs (xr ?_))))
    refine lv rfl rfl (va rfl) ?_
    refine ln (qn (xb ?_))
    obtain ⟨c5, c3, e0, e4⟩ := H
    refine xl (σ := Int) (fun s => [(0, (.slice l a7 a8)), (9, (.slice b1 b0 a9)), (10, (.slice r0 a0 a1)), (14, (.int .i64 s))]) (fun s h' => c5 s h' ∧ True) (fun s h' => c3 s h') 0 ⟨e0, trivial⟩ (hc rfl (hc rfl (hc rfl (hc rfl hn)))) ?_
    rintro i ρ h5 ⟨f0, -⟩
    have H := e4 i h5 f0
    refine xs (xs (xr ?_))
    refine lv rfl rfl (vm rfl) (lv rfl rfl (vm rfl) (lv rfl rfl (v := (.int .i64 (a0 : Int))) (hv_len (n := a0) TyTF.u22 rfl) (lv rfl rfl (vr rfl rfl rfl) ?_)))
    refine ln (qn ?_)
    refine xc (b := decide (i < (a0 : Int))) rfl (fun c9 => ?_) (fun c9 => ?_)
    ·replace H := H.1 c9
     refine xi (qn (xs (xb (xs (xr ?_)))))
     refine lv rfl rfl (va rfl) ?_
     refine ln (qn (xb ?_))
     obtain ⟨c7, c4, e9, e6⟩ := H
     refine xl (σ := Int) (fun s => [(0, (.slice l a7 a8)), (9, (.slice b1 b0 a9)), (10, (.slice r0 a0 a1)), (14, (.int .i64 i)), (15, (.int .i64 s))]) (fun s h' => c7 s h' ∧ True) (fun s h' => c4 s h') 0 ⟨e9, trivial⟩ (hc rfl (hc rfl (hc rfl (hc rfl (hc rfl hn))))) ?_
     rintro k ρ h6 ⟨e3, -⟩
     have H := e6 k h6 e3
     refine xs (xs (xr ?_))
     refine lv rfl rfl (vm rfl) (lv rfl rfl (vm rfl) (lv rfl rfl (vm rfl) ?_))
     obtain ⟨b2, b4, d6, d4, d2, Hq⟩ := H
     subst d6
     have H := Hq; clear Hq
     refine lv rfl rfl (v := (ptr b2 (b4 + (Int.toNat i) * 2))) (vi TyTF.el22 rfl rfl d4 d2) (lv rfl rfl (v := (ptr b2 ((b4 + (Int.toNat i) * 2) + 1))) (vf TyTF.fld34_1 (b := b2) (o := b4 + (Int.toNat i) * 2) rfl) ?_)
     obtain ⟨x, b6, d1, d5, H⟩ := H
     refine lv rfl rfl (vl TyTF.agg32 rfl d5) (lv rfl rfl (v := (.int .i64 (b6 : Int))) (hv_len (n := b6) TyTF.u32 rfl) (lv rfl rfl (vr rfl rfl rfl) ?_))
     refine ln (qn ?_)
     refine xc (b := decide (k < (b6 : Int))) rfl (fun c8 => ?_) (fun c8 => ?_)
     ·replace H := H.1 c8
      refine xi (qn (xs (xb (xr ?_))))
      refine lv rfl rfl (vm rfl) (lv rfl rfl (vm rfl) (lv rfl rfl (v := (ptr b2 (b4 + (Int.toNat i) * 2))) (vi TyTF.el22 rfl rfl d4 d2) (lv rfl rfl (v := (ptr b2 ((b4 + (Int.toNat i) * 2) + 1))) (vf TyTF.fld34_1 (b := b2) (o := b4 + (Int.toNat i) * 2) rfl) (lv rfl rfl (vl TyTF.agg32 rfl d5) (lv rfl rfl (vm rfl) ?_)))))
      obtain ⟨c1, c0, d6, e5, e7, Hq⟩ := H
      subst d6
      have H := Hq; clear Hq
      refine lv rfl rfl (v := (ptr c1 (c0 + (Int.toNat k) * 4))) (vi TyTF.el32 rfl rfl e5 e7) (lv rfl rfl (v := (ptr c1 ((c0 + (Int.toNat k) * 4) + 2))) (vf TyTF.fld36_2 (b := c1) (o := c0 + (Int.toNat k) * 4) rfl) ?_)
      obtain ⟨e1, H⟩ := H
      refine lp rfl rfl (hn_store (v := (.string (ByteArray.mk #[111, 116, 104, 101, 114]))) rfl rfl TyTF.sz9 rfl e1 ?_)
      intro h7 e2
      replace H := H h7 e2
      refine ln (bn (qn (xr ?_)))
      refine lv rfl rfl (vm rfl) (lv rfl rfl (vr rfl rfl rfl) (lv rfl rfl (va rfl) ?_))
      refine ln (qn ?_)
      exact ⟨IntKind.i64.wrap (k + 1), ⟨⟨H.1, trivial⟩, H.2⟩, (hc rfl (hc rfl (hc rfl (hc rfl (hc rfl hn)))))⟩
     ·replace H := H.2 c8
      refine xe (qe (qe (bh (bn (qn (xr ?_))))))
      refine lv rfl rfl (vm rfl) (lv rfl rfl (vr rfl rfl rfl) (lv rfl rfl (va rfl) ?_))
      refine ln (qn ?_)
      exact ⟨IntKind.i64.wrap (i + 1), ⟨⟨H.1, trivial⟩, H.2⟩, (hc rfl (hc rfl (hc rfl (hc rfl hn))))⟩
    ·replace H := H.2 c9
     refine xe (qe (qe (bh (qn (xs (xr ?_))))))
     refine lv rfl rfl (vm rfl) (lv rfl rfl (vm rfl) ?_)
     obtain ⟨c6, e8, H⟩ := H
     refine lv rfl rfl (hv_call TyTF.cb12 (vs := [(.slice b1 b0 a9), (.slice l a7 a8)]) rfl e8) (lv rfl rfl (va rfl) ?_)
     refine ln (qn (xt ?_))
     exact endQ_ret _ (res_one Try.results4 (rv_tmp rfl)) H
theorem f6_sh (l : Option Addr) (a0 : Nat) (a2 : Nat) (a5 : Int) (a4 : Int) (h : Heap) (R : Value → Heap → Prop)
  (H : HC Try.prog 9 #[] h (fun vv h1 => Ext h h1 ∧ ∃ r : Bool, vv = (.bool r) ∧ (((!r) = true → R (.bool false) h1) ∧ ((!r) = false → (∃ A5 : Bool → Heap → Prop, HC Try.prog 11 #[(.slice l a0 a2)] h1 (fun vv h3 => Ext h1 h3 ∧ ∃ b3 : Int, vv = (.int .i64 b3) ∧ (((b3 != 0) = true → (A5 true h3)) ∧ ((b3 != 0) = false → (A5 ((a0 : Int) == 0) h3)))) ∧ (∀ (j : Bool) (h2 : Heap), A5 j h2 → ((j = true → HC Try.prog 13 #[(.slice l a0 a2), (.int .i64 0), (.int .i64 a5), (.int .i64 a4)] h2 (fun vv h4 => Ext h2 h4 ∧ ∃ r0 : Option Addr, ∃ a1 a3 : Nat, ∃ r1 : Int, vv = (.tuple #[(.slice r0 a1 a3), (.int .i64 r1)]) ∧ R (.bool (r1 != 0)) h4)) ∧ (j = false → (∃ (b9 : Int → Int → Prop) (b5 : Int → Int → Nat), b9 0 0 ∧ (∀ (k : Int) (i : Int), b9 k i → (((decide (i < (a0 : Int))) = true → (∃ b2 : Int, (∃ a6 a8 : Nat, l = some ⟨a6, a8, none⟩ ∧ (0 : Int) ≤ i ∧ i < (a0 : Int) ∧ (∃ x : Int, hcell h2 a6 (a8 + (Int.toNat i) * 2) = some (.int .u64 x) ∧ ((0 : Int) ≤ k ∧ k < (a0 : Int) ∧ (∃ b4 : Int, hcell h2 a6 (a8 + (Int.toNat k) * 2) = some (.int .u64 b4) ∧ (((decide (x < b4)) = true → (b2 = i)) ∧ ((decide (x < b4)) = false → (b2 = k))))))) ∧ (b9 b2 (IntKind.i64.wrap (i + 1)) ∧ b5 b2 (IntKind.i64.wrap (i + 1)) < b5 k i))) ∧ ((decide (i < (a0 : Int))) = false → HC Try.prog 13 #[(.slice l a0 a2), (.int .i64 k), (.int .i64 a5), (.int .i64 a4)] h2 (fun vv h5 => Ext h2 h5 ∧ ∃ r0 : Option Addr, ∃ a1 a3 : Nat, ∃ r1 : Int, vv = (.tuple #[(.slice r0 a1 a3), (.int .i64 r1)]) ∧ (((r1 != 0) = true → R (.bool ((a1 : Int) == 0)) h5) ∧ ((r1 != 0) = false → (0 ≤ ((0 : Int) : Int) ∧ (0 : Int) ≤ k ∧ k ≤ (a2 : Int) ∧ ∀ sl : Option Addr, sl = slA l (Int.toNat 0) 2 a2 → (0 ≤ (IntKind.i64.wrap (k + 1) : Int) ∧ IntKind.i64.wrap (k + 1) ≤ (a0 : Int) ∧ (a0 : Int) ≤ (a2 : Int) ∧ ∀ b1 : Option Addr, b1 = slA l (Int.toNat (IntKind.i64.wrap (k + 1))) 2 a2 → HC Try.prog 8 #[(.slice sl (Int.toNat k - Int.toNat 0) (a2 - Int.toNat 0))] h5 (fun vv h6 => Ext h5 h6 ∧ ∃ d1 : Option Addr, ∃ c9 c8 : Nat, vv = (.slice d1 c9 c8) ∧ HC Try.prog 8 #[(.slice b1 (Int.toNat (a0 : Int) - Int.toNat (IntKind.i64.wrap (k + 1))) (a2 - Int.toNat (IntKind.i64.wrap (k + 1))))] h6 (fun vv h7 => Ext h6 h7 ∧ ∃ d2 : Option Addr, ∃ b7 b6 : Nat, vv = (.slice d2 b7 b6) ∧ HAppend Try.prog 22 22 (.slice d1 c9 c8) (.slice d2 b7 b6) h7 (fun vv h8 => ∃ ap : Option Addr, ∃ b0 a9 : Nat, vv = (.slice ap b0 a9) ∧ (∃ b8 : Bool, HC Try.prog 12 #[(.slice r0 a1 a3), (.slice ap b0 a9)] h8 (fun vv h' => vv = (.bool b8) ∧ h' = h8) ∧ R (.bool b8) h8))))))))))))))))))))) :
  HC Try.prog 6 #[(.slice l a0 a2), (.int .i64 a5), (.int .i64 a4)] h R := by
 refine hc_of (args := [(.slice l a0 a2), (.int .i64 a5), (.int .i64 a4)]) Try.func6 rfl Try.ntmps6 (Nat.le_of_ble_eq_true rfl) ?_
 refine xs (xr ?_)
 refine lv rfl rfl (va rfl) ?_
 refine ln (qn (xs (xs (xr ?_))))
 refine lp rfl rfl (sc TyTF.cb9 rfl (HC.mono H ?_))
 rintro _ h1 ⟨f6, r, rfl, H⟩
 refine lv rfl rfl (v := (.bool (!r))) (hv_not (b := r) rfl) ?_
 refine ln (qn ?_)
 refine xc (b := !r) rfl (fun c7 => ?_) (fun c7 => ?_)
 ·replace H := H.1 c7
  refine xs (xr ?_)
  refine lv rfl rfl (va rfl) ?_
  refine ln (qn (xt (qr ?_)))
  exact endQ_ret _ (res_one Try.results6 (rv_tmp rfl)) H
 ·replace H := H.2 c7
  refine xi (qn (xs ?_))
  obtain ⟨A5, d0, c5⟩ := H
  refine xk (fun ρ h' => ∃ j : Bool, (A5 j h' ∧ True) ∧ Has ρ [(0, (.slice l a0 a2)), (1, (.int .i64 a5)), (2, (.int .i64 a4)), (23, (.bool j))]) ?_ ?_
  ·have H := d0; clear d0 c5
   refine xr ?_
   refine lv rfl rfl (vm rfl) ?_
   refine lp rfl rfl (sc TyTF.cb11 rfl (HC.mono H ?_))
   rintro _ h3 ⟨f5, b3, rfl, H⟩
   refine lv rfl rfl (vr rfl rfl rfl) (lv rfl rfl (vm rfl) ?_)
   rcases bool_or (b3 != 0) with a7 | a7
   ·replace H := H.1 a7
    refine lo (wanted_n rfl rfl rfl a7) rfl ?_
    refine lo (wanted_n rfl rfl rfl a7) rfl ?_
    refine lo (wanted_n rfl rfl rfl a7) rfl ?_
    refine lv rfl rfl (v := (.bool true)) (hv_pick_t rfl a7 rfl) ?_
    refine ln (qn ?_)
    exact ⟨_, ⟨H, trivial⟩, (hc rfl (hc rfl (hc rfl (hc rfl hn))))⟩
   ·replace H := H.2 a7
    refine ly (wanted_y rfl rfl rfl a7) rfl (HStep.of_val (v := (.slice l a0 a2)) (vm rfl) ?_)
    refine ly (wanted_y rfl rfl rfl a7) rfl (HStep.of_val (v := (.int .i64 (a0 : Int))) (hv_len (n := a0) TyTF.u22 rfl) ?_)
    refine ly (wanted_y rfl rfl rfl a7) rfl (HStep.of_val (v := (.bool ((a0 : Int) == 0))) (vr rfl rfl rfl) ?_)
    refine lv rfl rfl (v := (.bool ((a0 : Int) == 0))) (hv_pick_f rfl a7 rfl) ?_
    refine ln (qn ?_)
    exact ⟨_, ⟨H, trivial⟩, (hc rfl (hc rfl (hc rfl (hc rfl hn))))⟩
  ·rintro ρ h2 ⟨j, ⟨f1, -⟩, hH⟩
   have H := c5 j h2 f1; clear d0 c5
   refine xh _ hH ?_
   refine xc (b := j) rfl (fun c6 => ?_) (fun c6 => ?_)
   ·replace H := H.1 c6
    refine xs (xr ?_)
    refine lv rfl rfl (vm rfl) (lv rfl rfl (vm rfl) (lv rfl rfl (vm rfl) ?_))
    refine lp rfl rfl (sc TyTF.cb13 rfl (HC.mono H ?_))
    rintro _ h4 ⟨f4, r0, a1, a3, r1, rfl, H⟩
    refine lv rfl rfl (vm rfl) (lv rfl rfl (vx rfl rfl) (lv rfl rfl (vx rfl rfl) (lv rfl rfl (va rfl) (lv rfl rfl (va rfl) ?_))))
    refine ln (qn (xs (xr ?_)))
    refine lv rfl rfl (vm rfl) (lv rfl rfl (vr rfl rfl rfl) (lv rfl rfl (va rfl) ?_))
    refine ln (qn (xt (qr ?_)))
    exact endQ_ret _ (res_one Try.results6 (rv_tmp rfl)) H
   ·replace H := H.2 c6
    refine xi (qn (xs (xr ?_)))
    refine lv rfl rfl (va rfl) ?_
    refine ln (qn (xs (xs (xr ?_))))
    refine lv rfl rfl (va rfl) ?_
    refine ln (qn (xb ?_))
    obtain ⟨b9, b5, e2, d7⟩ := H
    refine xl (σ := Int × Int) (fun s => [(0, (.slice l a0 a2)), (1, (.int .i64 a5)), (2, (.int .i64 a4)), (9, (.int .i64 s.1)), (10, (.int .i64 s.2))]) (fun s h' => b9 s.1 s.2 ∧ h2 = h') (fun s _ => b5 s.1 s.2) (0, 0) ⟨e2, rfl⟩ (hc rfl (hc rfl (hc rfl (hc rfl (hc rfl hn))))) ?_
    rintro ⟨k, i⟩ ρ _ ⟨e3, rfl⟩
    have H := d7 k i e3
    refine xs (xs (xr ?_))
    refine lv rfl rfl (vm rfl) (lv rfl rfl (vm rfl) (lv rfl rfl (v := (.int .i64 (a0 : Int))) (hv_len (n := a0) TyTF.u22 rfl) (lv rfl rfl (vr rfl rfl rfl) ?_)))
    refine ln (qn ?_)
    refine xc (b := decide (i < (a0 : Int))) rfl (fun c4 => ?_) (fun c4 => ?_)
    ·replace H := H.1 c4
     refine xi (qn ?_)
     obtain ⟨b2, c3, c2⟩ := H
     refine xk (fun ρ h' => h2 = h' ∧ Has ρ [(0, (.slice l a0 a2)), (1, (.int .i64 a5)), (2, (.int .i64 a4)), (9, (.int .i64 b2)), (10, (.int .i64 i))]) ?_ ?_
     ·have H := c3; clear c3 c2
      refine xb (xs ?_)
      refine hx_draw TyTF.mixed [.pure, .pure, .pure, .pure, .read, .pure, .pure, .pure, .pure, .read, .pure] [0, 1, 2, 3, 4, 5, 6, 7, 8, 9, 10] (by kernel_rfl) ?_
      refine pp (i := 0) rfl (wanted_0 rfl) rfl (.slice l a0 a2) (fun _ => vm rfl) ?_
      refine pp (i := 1) rfl (wanted_0 rfl) rfl (.int .i64 i) (fun _ => vm rfl) ?_
      obtain ⟨a6, a8, f2, e4, e0, Hq⟩ := H
      subst f2
      have H := Hq; clear Hq
      refine pp (i := 2) rfl (wanted_0 rfl) rfl (ptr a6 (a8 + (Int.toNat i) * 2)) (fun _ => vi TyTF.el22 rfl rfl e4 e0) ?_
      refine pp (i := 3) rfl (wanted_0 rfl) rfl (ptr a6 (a8 + (Int.toNat i) * 2)) (fun _ => vf TyTF.fld34_0 (b := a6) (o := a8 + (Int.toNat i) * 2) rfl) ?_
      obtain ⟨x, d8, H⟩ := H
      refine pr (i := 4) rfl (wanted_0 rfl) rfl (.int .u64 x) (fun _ he => vl TyTF.agg31 rfl (Ext.cell he d8)) ?_
      refine pp (i := 5) rfl (wanted_0 rfl) rfl (.slice (some ⟨a6, a8, none⟩) a0 a2) (fun _ => vm rfl) ?_
      refine pp (i := 6) rfl (wanted_0 rfl) rfl (.int .i64 k) (fun _ => vm rfl) ?_
      obtain ⟨f0, d3, H⟩ := H
      refine pp (i := 7) rfl (wanted_0 rfl) rfl (ptr a6 (a8 + (Int.toNat k) * 2)) (fun _ => vi TyTF.el22 rfl rfl f0 d3) ?_
      refine pp (i := 8) rfl (wanted_0 rfl) rfl (ptr a6 (a8 + (Int.toNat k) * 2)) (fun _ => vf TyTF.fld34_0 (b := a6) (o := a8 + (Int.toNat k) * 2) rfl) ?_
      obtain ⟨b4, d4, H⟩ := H
      refine pr (i := 9) rfl (wanted_0 rfl) rfl (.int .u64 b4) (fun _ he => vl TyTF.agg31 rfl (Ext.cell he d4)) ?_
      refine pp (i := 10) rfl (wanted_0 rfl) rfl (.bool (decide (x < b4))) (fun _ => vr rfl rfl rfl) ?_
      refine hp_nil ?_
      refine qn ?_
      refine xc (b := decide (x < b4)) rfl (fun c1 => ?_) (fun c1 => ?_)
      ·replace H := H.1 c1
       refine xr ?_
       refine lv rfl rfl (vm rfl) (lv rfl rfl (va rfl) ?_)
       refine ln (bn (qn ?_))
       obtain rfl := H
       exact ⟨rfl, (hc rfl (hc rfl (hc rfl (hc rfl (hc rfl hn)))))⟩
      ·replace H := H.2 c1
       refine xi (bn (qn ?_))
       obtain rfl := H
       exact ⟨rfl, (hc rfl (hc rfl (hc rfl (hc rfl (hc rfl hn)))))⟩
     ·have H := c2; clear c3 c2
      rintro ρ _ ⟨rfl, hH⟩
      refine xh _ hH ?_
      refine xr ?_
      refine lv rfl rfl (vm rfl) (lv rfl rfl (vr rfl rfl rfl) (lv rfl rfl (va rfl) ?_))
      refine ln (qn ?_)
      exact ⟨(b2, IntKind.i64.wrap (i + 1)), ⟨⟨H.1, rfl⟩, H.2⟩, (hc rfl (hc rfl (hc rfl (hc rfl (hc rfl hn)))))⟩
    ·replace H := H.2 c4
     refine xe (qe (qe (bh (qn (xs (xr ?_))))))
     refine lv rfl rfl (vm rfl) (lv rfl rfl (vm rfl) (lv rfl rfl (vm rfl) (lv rfl rfl (vm rfl) ?_)))
     refine lp rfl rfl (sc TyTF.cb13 rfl (HC.mono H ?_))
     rintro _ h5 ⟨f3, r0, a1, a3, r1, rfl, H⟩
     refine lv rfl rfl (vm rfl) (lv rfl rfl (vx rfl rfl) (lv rfl rfl (vx rfl rfl) (lv rfl rfl (va rfl) (lv rfl rfl (va rfl) ?_))))
     refine ln (qn (xs (xs (xr ?_))))
     refine lv rfl rfl (vm rfl) (lv rfl rfl (vr rfl rfl rfl) ?_)
     refine ln (qn ?_)
     refine xc (b := r1 != 0) rfl (fun c0 => ?_) (fun c0 => ?_)
     ·replace H := H.1 c0
      refine xs (xr ?_)
      refine lv rfl rfl (vm rfl) (lv rfl rfl (v := (.int .i64 (a1 : Int))) (hv_len (n := a1) TyTF.u22 rfl) (lv rfl rfl (vr rfl rfl rfl) (lv rfl rfl (va rfl) ?_)))
      refine ln (qn (xt (qr ?_)))
      exact endQ_ret _ (res_one Try.results6 (rv_tmp rfl)) H
     ·replace H := H.2 c0
      refine xi (qn (xs ?_))
      refine hx_draw TyTF.mixed [.pure, .pure, .pure, .ext, .pure, .pure, .pure, .pure, .ext, .wild, .pure] [0, 1, 2, 4, 5, 6, 7, 3, 8, 9, 10] (by kernel_rfl) ?_
      refine pp (i := 0) rfl (wanted_0 rfl) rfl (.slice l a0 a2) (fun _ => vm rfl) ?_
      refine pp (i := 1) rfl (wanted_0 rfl) rfl (.int .i64 k) (fun _ => vm rfl) ?_
      obtain ⟨e1, d5, e9, H⟩ := H
      obtain ⟨sl, hq31⟩ : ∃ q, q = slA l (Int.toNat 0) 2 a2 := ⟨_, rfl⟩
      replace H := H sl hq31
      refine pp (i := 2) rfl (wanted_0 rfl) rfl (.slice sl (Int.toNat k - Int.toNat 0) (a2 - Int.toNat 0)) (fun _ => hv_slice (l := 0) (r := k) TyTF.u22 TyTF.sz34 rfl sl_none (sh_some rfl) e1 d5 e9 hq31) ?_
      refine pp (i := 4) rfl (wanted_0 rfl) rfl (.slice l a0 a2) (fun _ => vm rfl) ?_
      refine pp (i := 5) rfl (wanted_0 rfl) rfl (.int .i64 k) (fun _ => vm rfl) ?_
      refine pp (i := 6) rfl (wanted_0 rfl) rfl (.int .i64 (IntKind.i64.wrap (k + 1))) (fun _ => vr rfl rfl rfl) ?_
      obtain ⟨e8, d9, e6, H⟩ := H
      obtain ⟨b1, hq35⟩ : ∃ q, q = slA l (Int.toNat (IntKind.i64.wrap (k + 1))) 2 a2 := ⟨_, rfl⟩
      replace H := H b1 hq35
      refine pp (i := 7) rfl (wanted_0 rfl) rfl (.slice b1 (Int.toNat (a0 : Int) - Int.toNat (IntKind.i64.wrap (k + 1))) (a2 - Int.toNat (IntKind.i64.wrap (k + 1)))) (fun _ => hv_slice (l := IntKind.i64.wrap (k + 1)) (r := (a0 : Int)) TyTF.u22 TyTF.sz34 rfl (sl_some rfl) sh_none e8 d9 e6 hq35) ?_
      refine hp_ext (i := 3) rfl (wanted_0 rfl) rfl (sc TyTF.cb8 rfl (HC.mono H ?_))
      rintro _ h6 ⟨e7, d1, c9, c8, rfl, H⟩
      refine ⟨e7, ?_⟩
      refine hp_ext (i := 8) rfl (wanted_0 rfl) rfl (sc TyTF.cb8 rfl (HC.mono H ?_))
      rintro _ h7 ⟨d6, d2, b7, b6, rfl, H⟩
      refine ⟨d6, ?_⟩
      refine hp_wild (i := 9) rfl (wanted_0 rfl) rfl (hs_append rfl rfl (HAppend.mono H ?_))
      rintro _ h8 ⟨ap, b0, a9, rfl, H⟩
      refine pp (i := 10) rfl (wanted_0 rfl) rfl (.slice ap b0 a9) (fun _ => va rfl) ?_
      refine hp_nil ?_
      refine qn (xs (xr ?_))
      refine lv rfl rfl (vm rfl) (lv rfl rfl (vm rfl) ?_)
      obtain ⟨b8, e5, H⟩ := H
      refine lv rfl rfl (hv_call TyTF.cb12 (vs := [(.slice r0 a1 a3), (.slice ap b0 a9)]) rfl e5) (lv rfl rfl (va rfl) ?_)
      refine ln (qn (xt ?_))
      exact endQ_ret _ (res_one Try.results6 (rv_tmp rfl)) H
end Go.Proofs.Ytcdpapdefdnknaa
namespace Go.Proofs.Ytcdpapdefdnknaa
namespace Cy
open Go
def lowG (b s : Nat) (L : List Sf) (q : Int) : List (Option (Nat → Bool)) := (L.filter fun S => decide (S.seq < q)).map fun S => some (fltR b s S.recs)
theorem lowG_take {b s : Nat} {L : List Sf} {q : Int} {k : Nat} (hk : k < L.length) : lowG b s (L.take (k + 1)) q = lowG b s (L.take k) q ++ if (getS L k).seq < q then [some (fltR b s (getS L k).recs)] else [] := by
  have hg := getS_get (L := L) (i := k) (by omega) (by omega)
  rw [Int.toNat_natCast] at hg
  unfold lowG
  rw [List.take_add_one, hg, List.filter_append, List.map_append]
  congr 1
  simp only [Option.toList_some, List.filter_cons, List.filter_nil, decide_eq_true_eq]
  split <;> rfl
theorem lowG_len (b s : Nat) (L : List Sf) (q : Int) : (lowG b s L q).length ≤ L.length := by
  unfold lowG; rw [List.length_map]; exact List.length_filter_le _ _
def butT (L : List Sf) (n k : Nat) : List Sf := (L.take n).take k ++ (L.drop (n + 1)).take (k - (n + 1))
theorem butT_all {L : List Sf} {n : Nat} (hn : n < L.length) : butT L n L.length = but L n := by
  unfold butT but
  have e1 : (L.take n).take L.length = L.take n := List.take_of_length_le (by rw [List.length_take]; omega)
  have e2 : (L.drop (n + 1)).take (L.length - (n + 1)) = L.drop (n + 1) := List.take_of_length_le (by rw [List.length_drop]; exact Nat.le_refl _)
  rw [e1, e2]
theorem butT_at {L : List Sf} {n : Nat} : butT L n (n + 1) = butT L n n := by
  unfold butT
  rw [Nat.sub_self, show n - (n + 1) = 0 by omega, List.take_take, List.take_take, Nat.min_eq_right (by omega), Nat.min_self]
theorem butT_step {L : List Sf} {n k : Nat} (hk : k < L.length) (hkn : k ≠ n) : butT L n (k + 1) = butT L n k ++ [getS L k] := by
  have hg := getS_get (L := L) (i := k) (by omega) (by omega)
  rw [Int.toNat_natCast] at hg
  unfold butT
  rcases Nat.lt_or_gt_of_ne hkn with h | h
  · rw [show k + 1 - (n + 1) = 0 by omega, show k - (n + 1) = 0 by omega, List.take_zero, List.append_nil, List.append_nil, List.take_take, List.take_take, Nat.min_eq_left (by omega), Nat.min_eq_left (by omega), List.take_add_one, hg]; rfl
  · rw [show k + 1 - (n + 1) = (k - (n + 1)) + 1 by omega, List.take_take, List.take_take, Nat.min_eq_right (by omega), Nat.min_eq_right (by omega), List.append_assoc]
    congr 1
    rw [List.take_add_one, List.getElem?_drop, show n + 1 + (k - (n + 1)) = k by omega, hg]; rfl
theorem butT_len {L : List Sf} {n k : Nat} (hn : n < L.length) : (butT L n k).length + 1 ≤ L.length := by
  unfold butT
  rw [List.length_append, List.length_take, List.length_take, List.length_take, List.length_drop]; omega
theorem mostS_take {L : List Sf} {k : Nat} (hk : k < L.length) : mostS (L.take (k + 1)) = max (mostS (L.take k)) (getS L k).seq := by
  have hg := getS_get (L := L) (i := k) (by omega) (by omega)
  rw [Int.toNat_natCast] at hg
  rw [List.take_add_one, hg]; exact mostS_snoc _ _
def Rec (L : List Sf) (at_ bits hashes e : Int) (Y : List Sf) : Prop :=
  (¬ Good L ∧ e = 170 ∧ Y = []) ∨ (Good L ∧ ¬ (0 ≤ at_ ∧ at_ < L.length) ∧ e = 1 ∧ Y = []) ∨ (Good L ∧ (0 ≤ at_ ∧ at_ < L.length) ∧ ¬ okF bits hashes ∧ e = 150 ∧ Y = []) ∨
  (Good L ∧ (0 ≤ at_ ∧ at_ < L.length) ∧ okF bits hashes ∧ ∃ D, IsT (anyF bits.toNat hashes.toNat (lowG bits.toNat hashes.toNat L (getS L at_).seq)) (getS L at_).recs D ∧
    ((D = [] ∧ e = 0 ∧ Y = but L at_.toNat) ∨ (D ≠ [] ∧ mostS L = 18446744073709551615 ∧ e = 3 ∧ Y = []) ∨ (D ≠ [] ∧ mostS L ≠ 18446744073709551615 ∧ e = 0 ∧ Y = but L at_.toNat ++ [⟨mostS L + 1, D⟩])))
theorem Rec.eq {L : List Sf} {at_ bits hashes e e' : Int} {Y Y' : List Sf} (a : Rec L at_ bits hashes e Y) (b : Rec L at_ bits hashes e' Y') : e = e' ∧ Y = Y' := by
  rcases a with ⟨a1, rfl, rfl⟩ | ⟨a1, a2, rfl, rfl⟩ | ⟨a1, a2, a3, rfl, rfl⟩ | ⟨a1, a2, a3, D, aD, a4⟩ <;> rcases b with ⟨b1, rfl, rfl⟩ | ⟨b1, b2, rfl, rfl⟩ | ⟨b1, b2, b3, rfl, rfl⟩ | ⟨b1, b2, b3, D', bD, b4⟩
  all_goals try (first | exact ⟨rfl, rfl⟩ | exact absurd b1 a1 | exact absurd a1 b1 | exact absurd b2 a2 | exact absurd a2 b2 | exact absurd b3 a3 | exact absurd a3 b3)
  rw [← aD.eq bD] at b4
  rcases a4 with ⟨c1, rfl, rfl⟩ | ⟨c1, c2, rfl, rfl⟩ | ⟨c1, c2, rfl, rfl⟩ <;> rcases b4 with ⟨d1, rfl, rfl⟩ | ⟨d1, d2, rfl, rfl⟩ | ⟨d1, d2, rfl, rfl⟩
  all_goals first | exact ⟨rfl, rfl⟩ | exact absurd d1 c1 | exact absurd c1 d1 | exact absurd d2 c2 | exact absurd c2 d2
section
variable {h h' : Heap} {a : Option Addr} {c b s N : Nat} {P : List (Option Addr)} {G : List (Option (Nat → Bool))} {L : List Sf}
theorem FlsM.fr {S : Nat → Prop} (f : FlsM h b s a c P G) (x : Fr S h h') (na : ∀ q, blkA a q → ¬ S q) (nf : ∀ q (cs : Array Value) T (fr : Nat × Nat), h[q]? = some (.cells cs T fr) → (T = tF ∨ T = tU) → ¬ S q) : FlsM h' b s a c P G :=
  ⟨f.1.fr x na, f.2.1, fun i y g h1 h2 => (f.2.2 i y g h1 h2).imp id fun ⟨p, w, F, e1, e2, q⟩ => ⟨p, w, F, e1, e2, q.fr x (nf _ _ _ _ q.row (.inl rfl)) (let ⟨_, _, k2, _⟩ := q.wrd; nf _ _ _ _ k2 (.inr rfl))⟩⟩
theorem FlsM.nil (b s : Nat) (h : Heap) : FlsM h b s none 0 [] [] := ⟨Sl.nil _ _, rfl, fun i x g q => by rw [List.getElem?_nil] at q; cases q⟩
theorem FlsM.app {h1 : Heap} {nb : Nat} {x : Option Addr} {g : Option (Nat → Bool)} {t : TypeId} (ht : t = 57) (f : FlsM h b s a c P G) (w : Own ePt.k tPm N h a c) (en : nb = h.size) (eh : h1 = h.push (.cells #[.pointer x] tPm)) (hx : (x = none ∧ g = none) ∨ ∃ p w F, x = some ⟨p, 0, none⟩ ∧ g = some F ∧ Flm h p w b s F) (hN : N ≤ h.size) (hsz : (P.length + 1) * 8 ≤ 140737488355328) {K : Value → Heap → Prop}
    (hk : ∀ a' c' h', Fr (blkA a) h h' → FlsM h' b s a' c' (P ++ [x]) (G ++ [g]) → Own ePt.k tPm N h' a' c' → K (.slice a' (P.length + 1) c') h') : HAppend Try.prog t t (.slice a P.length c) (.slice (some ⟨nb, 0, none⟩) 1 1) h1 K := by
  subst ht
  have nf : ∀ q (cs : Array Value) T (fr : Nat × Nat), h[q]? = some (.cells cs T fr) → (T = tF ∨ T = tU) → ¬ blkA a q := fun q cs T fr r hT hb => by
    rcases hT with rfl | rfl
    · exact own_ne w r (by decide) hb
    · exact own_ne w r (by decide) hb
  refine app_1 (x := x) aPm en eh rfl f.1 w rfl hN hsz fun a' c' h' fx s' w' _ => hk a' c' h' fx ⟨s', by simp [f.2.1], fun i y g' h1 h2 => ?_⟩ w'
  have hl := f.2.1
  by_cases hi : i < P.length
  · rw [List.getElem?_append_left hi] at h1
    rw [List.getElem?_append_left (by omega)] at h2
    exact (f.2.2 i y g' h1 h2).imp id fun ⟨p, w, F, e1, e2, q⟩ => ⟨p, w, F, e1, e2, q.fr fx (nf _ _ _ _ q.row (.inl rfl)) (let ⟨_, _, k2, _⟩ := q.wrd; nf _ _ _ _ k2 (.inr rfl))⟩
  · rw [List.getElem?_append_right (by omega)] at h1 h2
    rw [hl] at h1
    generalize i - G.length = j at *
    cases j with
    | zero =>
      simp at h1 h2
      subst h1; subst h2
      exact hx.imp id fun ⟨p, w, F, e1, e2, q⟩ => ⟨p, w, F, e1, e2, q.fr fx (nf _ _ _ _ q.row (.inl rfl)) (let ⟨_, _, k2, _⟩ := q.wrd; nf _ _ _ _ k2 (.inr rfl))⟩
    | succ j => simp at h1
theorem lower_m (sv : Shs h a c L) (hb : Bd L) (hsm : ∀ S ∈ L, small S.recs) {at_ : Int} (h0 : 0 ≤ at_) (h1 : at_ < L.length) (bits hashes : Int) : HC Try.prog 28 #[.slice a L.length c, .int .i64 at_, .int .i64 bits, .int .i64 hashes] h fun v h' => Ext h h' ∧
    ((¬ okF bits hashes ∧ v = .tuple #[.slice none 0 0, .int .i64 150]) ∨ (okF bits hashes ∧ ∃ a' c' P, v = .tuple #[.slice a' P.length c', .int .i64 0] ∧ FlsM h' bits.toNat hashes.toNat a' c' P (lowG bits.toNat hashes.toNat L (getS L at_).seq))) := by
  have hb1 := hb.len
  refine f28_sh _ _ _ _ _ _ _ _ ((new_m bits hashes h).mono ?_)
  rintro _ h1' ⟨x1, ⟨hno, rfl⟩ | ⟨hok, p, w, rfl, hp, hw, f1⟩⟩
  · exact ⟨x1, none, 150, rfl, fun _ => ⟨x1, .inl ⟨hno, rfl⟩⟩, fun e => (by simp at e)⟩
  refine ⟨x1, some ⟨p, 0, none⟩, 0, rfl, fun e => (by simp at e), fun _ => ⟨fun out n c' v h2 => ∃ (k : Nat) (P : List (Option Addr)), v = k ∧ k ≤ L.length ∧ n = P.length ∧ Ext h h2 ∧ FlsM h2 bits.toNat hashes.toNat out c' P (lowG bits.toNat hashes.toNat (L.take k) (getS L at_).seq) ∧ Own ePt.k tPm h.size h2 out c', fun _ _ _ v _ => L.length - v.toNat, ⟨0, [], rfl, Nat.zero_le _, rfl, x1, FlsM.nil _ _ _, Own.nil _ _ _ _⟩, ?_⟩⟩
  rintro out _ c' _ h2 ⟨k, P, rfl, hk, rfl, x2, f2, w2⟩
  refine ⟨fun e => ?_, fun e => ?_⟩
  rotate_left
  · have hke : k = L.length := by have := ge_of_dec e; omega
    subst hke
    rw [List.take_length] at f2
    exact ⟨x2, .inr ⟨hok, out, c', P, rfl, f2⟩⟩
  have hkl := lt_of_dec e
  have s2 := sv.ext x2
  obtain ⟨lb, lo, ra, rc, el, c1, c2, sr⟩ := s2.at_ (i := k) (by omega) (by omega)
  obtain ⟨lb', lo', _, _, el', d1, _, _⟩ := s2.at_ h0 h1
  rw [el] at el'; cases el'
  have hm := getS_mem (L := L) (i := k) (by omega) (by omega)
  have hbr := hb.recs _ hm
  have hss := hsm _ hm
  have hstep := lowG_take (b := bits.toNat) (s := hashes.toNat) (q := (getS L at_).seq) hkl
  have hPl : P.length ≤ k := by
    rw [f2.2.1]
    have := lowG_len bits.toNat hashes.toNat (L.take k) (getS L at_).seq
    rw [List.length_take] at this; omega
  generalize getS L k = S at *
  refine ⟨fun o n cc h3 => ∃ P' : List (Option Addr), n = P'.length ∧ Ext h h3 ∧ FlsM h3 bits.toNat hashes.toNat o cc P' (lowG bits.toNat hashes.toNat (L.take (k + 1)) (getS L at_).seq) ∧ Own ePt.k tPm h.size h3 o cc, ⟨lb, lo, el, by omega, by omega, _, _, _, _, c1, c2, h0, h1, _, d1, fun e2 h5 x5 => (filter_m bits hashes (sr.ext x5) hss hbr).mono ?_, fun e2 h5 x5 => ?_⟩, ?_⟩
  · have hlt := of_decide_eq_true e2
    rw [if_pos hlt] at hstep
    rintro _ h6 ⟨x6, ⟨hno, rfl⟩ | ⟨_, fp, fw, rfl, _, _, ff⟩⟩
    · exact absurd hok hno
    refine ⟨x6, some ⟨fp, 0, none⟩, 0, rfl, fun nb h7 en e7 => ?_⟩
    have x26 := x5.trans x6
    refine FlsM.app (g := some (fltR bits.toNat hashes.toNat S.recs)) rfl (f2.ext x26) (w2.ext x26) en e7 (.inr ⟨fp, fw, _, rfl, rfl, ff⟩) (by have := x2.size; have := x26.size; omega) (by omega) fun a' c'' h8 f8 g8 w8 => ⟨a', _, c'', rfl, _, ?_, ?_, by rw [hstep]; exact g8, w8⟩
    · simp
    · exact (((x2.trans x26).fr _).trans f8 fun _ _ q => q).ext fun i hi q => by have := ((w2.ext x26).low q).1; omega
  · have hlt := of_decide_eq_false e2
    rw [if_neg hlt, List.append_nil] at hstep
    exact ⟨P, rfl, x2.trans x5, by rw [hstep]; exact f2.ext x5, w2.ext x5⟩
  · rintro o _ cc h3 ⟨P', rfl, x3, f3, w3⟩
    rw [wadd k (by omega)]
    exact ⟨⟨k + 1, P', rfl, hkl, rfl, x3, f3, w3⟩, by show L.length - Int.toNat _ < L.length - Int.toNat _; omega⟩
theorem good_small {L : List Sf} (g : Good L) : ∀ S ∈ L, small S.recs := fun S hS r hr => by have := (g.ok S hS r hr).2.2; omega
set_option maxHeartbeats 6400000 in
theorem reclaim_m (sv : Shs h a c L) (hb : Bd L) (hw : Wf L) (at_ bits hashes : Int) : HC Try.prog 13 #[.slice a L.length c, .int .i64 at_, .int .i64 bits, .int .i64 hashes] h fun v h' => Ext h h' ∧
    ∃ e Y a' c', Rec L at_ bits hashes e Y ∧ v = .tuple #[.slice a' Y.length c', .int .i64 e] ∧ ShO h.size h' a' c' Y := by
  have hb1 := hb.len
  refine f13_sh _ _ _ _ _ _ _ _ ((check_m sv hb hw).mono ?_)
  rintro _ h1 ⟨rfl, x1⟩
  refine ⟨x1, _, rfl, fun e => ?_, fun e => ?_⟩
  · have hg : ¬ Good L := fun g => by rw [chk_yes g] at e; simp at e
    exact ⟨x1, 170, [], none, 0, .inl ⟨hg, rfl, rfl⟩, by rw [chk_no hg]; rfl, ShO.nil _ _⟩
  have hg : Good L := chk_ok.1 (by simpa using e)
  have hrange : ((decide (at_ < 0)) || (decide (at_ ≥ (L.length : Int)))) = !decide (0 ≤ at_ ∧ at_ < L.length) := by
    have : (0 ≤ at_ ∧ at_ < (L.length : Int)) ↔ ¬ (at_ < 0 ∨ at_ ≥ (L.length : Int)) := by omega
    rw [decide_eq_decide.2 this, decide_not, Bool.not_not, Bool.decide_or]
  rw [hrange]
  refine ⟨fun e2 => ?_, fun e2 => ?_⟩
  · have hr : ¬ (0 ≤ at_ ∧ at_ < L.length) := by rw [Bool.not_eq_true'] at e2; exact of_decide_eq_false e2
    exact ⟨x1, 1, [], none, 0, .inr (.inl ⟨hg, hr, rfl, rfl⟩), rfl, ShO.nil _ _⟩
  have hr : 0 ≤ at_ ∧ at_ < L.length := by rw [Bool.not_eq_false'] at e2; exact of_decide_eq_true e2
  obtain ⟨hr0, hr1⟩ := hr
  refine (lower_m (sv.ext x1) hb (good_small hg) hr0 hr1 bits hashes).mono ?_
  rintro _ h2 ⟨x2, ⟨hno, rfl⟩ | ⟨hok, pa, pc, P, rfl, fP⟩⟩
  · exact ⟨x2, none, 0, 0, 150, rfl, fun _ => ⟨x1.trans x2, 150, [], none, 0, .inr (.inr (.inl ⟨hg, ⟨hr0, hr1⟩, hno, rfl, rfl⟩)), rfl, ShO.nil _ _⟩, fun e => (by simp at e)⟩
  refine ⟨x2, pa, _, pc, 0, rfl, fun e => (by simp at e), fun _ => ?_⟩
  have x12 := x1.trans x2
  have s2 := sv.ext x12
  obtain ⟨lb, lo, ra, rc, el, c1, c2, sr⟩ := s2.at_ hr0 hr1
  have hmA := getS_mem hr0 hr1
  have hPl : P.length ≤ 4611686018427387904 := by
    rw [fP.2.1]; have := lowG_len bits.toNat hashes.toNat L (getS L at_).seq; omega
  refine ⟨lb, lo, el, hr0, hr1, ra, _, rc, c2, (needed_m sr (good_small hg _ hmA) (hb.recs _ hmA) (fun r hr => (hw.ver _ hmA r hr).1) fP hPl).mono ?_⟩
  rintro _ h3 ⟨x3, da, dc, D, hD, rfl, hDl, sD, wD⟩
  have x03 := x12.trans x3
  have z3 := x03.size
  generalize hn : at_.toNat = n at *
  have hna : at_ = n := by omega
  subst hna
  have hnl : n < L.length := by omega
  have wD' := wD.down x12.size
  refine ⟨x3, da, _, dc, rfl, fun gr out m c' v h4 => ∃ k : Nat, v = k ∧ k ≤ L.length ∧ gr = mostS (L.take k) ∧ m = (butT L n k).length ∧ Ext h3 h4 ∧ ShO h.size h4 out c' (butT L n k) ∧ ∀ b, blkA out b → h3.size ≤ b, fun _ _ _ _ v _ => L.length - v.toNat, ⟨0, rfl, Nat.zero_le _, rfl, by simp [butT], Ext.refl _, by simpa [butT] using ShO.nil _ _, fun b hb => (blkA_none hb).elim⟩, ?_⟩
  rintro _ out _ c' _ h4 ⟨k, rfl, hk, rfl, rfl, x4, o4, n4⟩
  refine ⟨fun e3 => ?_, fun e3 => ?_⟩
  · have hkl := lt_of_dec e3
    have s4 := sv.ext (x03.trans x4)
    obtain ⟨lb', lo', ka, kc, el', k1, k2, kr⟩ := s4.at_ (i := k) (by omega) (by omega)
    rw [el] at el'; cases el'
    have hmk := getS_mem (L := L) (i := k) (by omega) (by omega)
    have hbr := hb.recs _ hmk
    have hst : k ≠ n → butT L n (k + 1) = butT L n k ++ [getS L k] := butT_step hkl
    have hms := mostS_take hkl
    have hbl := butT_len (k := k) hnl
    generalize getS L k = S at *
    refine ⟨fun g o m cc h5 => g = mostS (L.take (k + 1)) ∧ m = (butT L n (k + 1)).length ∧ Ext h3 h5 ∧ ShO h.size h5 o cc (butT L n (k + 1)) ∧ ∀ b, blkA o b → h3.size ≤ b, ⟨by omega, by omega, _, _, _, _, k1, k2, fun e4 => ?_, fun e4 h7 x7 => ?_⟩, ?_⟩
    · have hkn : k ≠ n := fun q => by rw [q] at e4; simp at e4
      refine ⟨Ext, fit_ext, fun sv' h7 _ hlt x7 => ⟨fun hx fx => fx.kp _, (clone_m (kr.ext x7) hbr).mono ?_⟩⟩
      rintro _ h11 ⟨x11, ca, cc, rfl, s11, w11⟩
      refine ⟨x11, ca, _, cc, rfl, fun nb1 h12 en1 e12 => ?_⟩
      have x411 := x7.trans x11
      have z4 := x4.size
      have z411 := x411.size
      refine ShO.app (S := S) rfl (o4.ext x411) en1 e12 rfl s11 (w11.down (by have := x7.size; omega)) (by omega) (by omega) fun a' c'' h13 f13 o13 bl => ⟨a', _, c'', rfl, ?_, ?_, ?_, ?_, ?_⟩
      · rw [max_if, hms]
      · rw [hst hkn, List.length_append]; rfl
      · exact (((x4.trans x411).fr _).trans f13 fun _ _ q => q).ext fun i hi q => by have := n4 i q; omega
      · rw [hst hkn]; exact o13
      · intro b hb
        rcases bl b hb with q | q
        · exact n4 b q
        · omega
    · have hkn : k = n := by
        have : ((k : Int) != (n : Int)) = false := e4
        simp at this; omega
      rw [hkn, butT_at]
      refine ⟨?_, rfl, x4.trans x7, by rw [hkn] at o4; exact o4.ext x7, n4⟩
      rw [max_if, ← hkn, hms]
    · rintro _ o _ cc h5 ⟨rfl, rfl, x5, o5, n5⟩
      rw [wadd k (by omega)]
      exact ⟨⟨k + 1, rfl, hkl, rfl, rfl, x5, o5, n5⟩, by show L.length - Int.toNat _ < L.length - Int.toNat _; omega⟩
  · have hke : k = L.length := by have := ge_of_dec e3; omega
    subst hke
    rw [butT_all hnl] at o4 ⊢
    rw [List.take_length]
    have x04 := x03.trans x4
    have recc := fun {e : Int} {Y : List Sf} (q : (D = [] ∧ e = 0 ∧ Y = but L n) ∨ (D ≠ [] ∧ mostS L = 18446744073709551615 ∧ e = 3 ∧ Y = []) ∨ (D ≠ [] ∧ mostS L ≠ 18446744073709551615 ∧ e = 0 ∧ Y = but L n ++ [⟨mostS L + 1, D⟩])) =>
      (show Rec L n bits hashes e Y from .inr (.inr (.inr ⟨hg, ⟨hr0, hr1⟩, hok, D, hD, by rw [Int.toNat_natCast]; exact q⟩)))
    refine ⟨fun e4 => ?_, fun e4 => ⟨fun e5 => ?_, fun e5 nb h14 en e14 => ?_⟩⟩
    · have hD0 : D = [] := List.length_eq_zero_iff.1 (by have : ((D.length : Int) == 0) = true := e4; simp at this; simp [this])
      exact ⟨x04, 0, _, out, c', recc (.inl ⟨hD0, rfl, rfl⟩), rfl, o4⟩
    · have hD0 : D ≠ [] := fun q => by rw [q] at e4; simp at e4
      exact ⟨x04, 3, [], none, 0, recc (.inr (.inl ⟨hD0, eq_of_beq e5, rfl, rfl⟩)), rfl, ShO.nil _ _⟩
    · have hD0 : D ≠ [] := fun q => by rw [q] at e4; simp at e4
      have hM : mostS L ≠ 18446744073709551615 := by simpa using e5
      have hnn := mostS_nn L
      have hlt : mostS L < 18446744073709551616 := mostS_lt (by decide) fun S hS => (hw.seq S hS).2
      rw [wu64 (by omega) (by omega)] at e14
      have hbl := butT_len (k := L.length) hnl
      rw [butT_all hnl] at hbl
      refine ShO.app (S := ⟨mostS L + 1, D⟩) rfl o4 en e14 rfl (sD.ext x4) (wD'.ext x4) (by have := x4.size; omega) (by omega) fun a' c'' h15 f15 o15 bl => ⟨a', _, c'', rfl, ?_, 0, _, a', c'', recc (.inr (.inr ⟨hD0, hM, rfl, rfl⟩)), by simp, o15⟩
      exact ((x04.fr _).trans f15 fun _ _ q => q).ext fun i hi q => by have := n4 i q; omega
end
end Cy
end Go.Proofs.Ytcdpapdefdnknaa
namespace Go.Proofs.Ytcdpapdefdnknaa
namespace Cy
open Go
section
variable {h h' : Heap} {a : Option Addr} {c b s N : Nat} {P : List (Option Addr)} {G : List (Option (Nat → Bool))} {L : List Sf}
theorem FlsR.nil (b s : Nat) (h : Heap) : FlsR h b s none 0 [] [] := ⟨Sl.nil _ _, rfl, fun i x g q => by rw [List.getElem?_nil] at q; cases q⟩
theorem FlsR.app {h1 : Heap} {nb : Nat} {x : Option Addr} {g : Option (Nat → Bool)} {t : TypeId} (ht : t = 58) (f : FlsR h b s a c P G) (w : Own ePt.k tPr N h a c) (en : nb = h.size) (eh : h1 = h.push (.cells #[.pointer x] tPr)) (hx : (x = none ∧ g = none) ∨ ∃ p w F, x = some ⟨p, 0, none⟩ ∧ g = some F ∧ Flr h p w b s F) (hN : N ≤ h.size) (hsz : (P.length + 1) * 8 ≤ 140737488355328) {K : Value → Heap → Prop}
    (hk : ∀ a' c' h', Fr (blkA a) h h' → FlsR h' b s a' c' (P ++ [x]) (G ++ [g]) → Own ePt.k tPr N h' a' c' → K (.slice a' (P.length + 1) c') h') : HAppend Try.prog t t (.slice a P.length c) (.slice (some ⟨nb, 0, none⟩) 1 1) h1 K := by
  subst ht
  have nf : ∀ q (cs : Array Value) T (fr : Nat × Nat), h[q]? = some (.cells cs T fr) → (T = tFr ∨ T = tB) → ¬ blkA a q := fun q cs T fr r hT hb => by
    rcases hT with rfl | rfl
    · exact own_ne w r (by decide) hb
    · exact own_ne w r (by decide) hb
  refine app_1 (x := x) aPr en eh rfl f.1 w rfl hN hsz fun a' c' h' fx s' w' _ => hk a' c' h' fx ⟨s', by simp [f.2.1], fun i y g' h1 h2 => ?_⟩ w'
  have hl := f.2.1
  by_cases hi : i < P.length
  · rw [List.getElem?_append_left hi] at h1
    rw [List.getElem?_append_left (by omega)] at h2
    exact (f.2.2 i y g' h1 h2).imp id fun ⟨p, w, F, e1, e2, q⟩ => ⟨p, w, F, e1, e2, q.fr fx (nf _ _ _ _ q.row (.inl rfl)) (let ⟨_, _, k2, _⟩ := q.wrd; nf _ _ _ _ k2 (.inr rfl))⟩
  · rw [List.getElem?_append_right (by omega)] at h1 h2
    rw [hl] at h1
    generalize i - G.length = j at *
    cases j with
    | zero =>
      simp at h1 h2
      subst h1; subst h2
      exact hx.imp id fun ⟨p, w, F, e1, e2, q⟩ => ⟨p, w, F, e1, e2, q.fr fx (nf _ _ _ _ q.row (.inl rfl)) (let ⟨_, _, k2, _⟩ := q.wrd; nf _ _ _ _ k2 (.inr rfl))⟩
    | succ j => simp at h1
theorem FlsR.fr {S : Nat → Prop} (f : FlsR h b s a c P G) (x : Fr S h h') (na : ∀ q, blkA a q → ¬ S q) (nf : ∀ q (cs : Array Value) T (fr : Nat × Nat), h[q]? = some (.cells cs T fr) → (T = tFr ∨ T = tB) → ¬ S q) : FlsR h' b s a c P G :=
  ⟨f.1.fr x na, f.2.1, fun i y g h1 h2 => (f.2.2 i y g h1 h2).imp id fun ⟨p, w, F, e1, e2, q⟩ => ⟨p, w, F, e1, e2, q.fr x (nf _ _ _ _ q.row (.inl rfl)) (let ⟨_, _, k2, _⟩ := q.wrd; nf _ _ _ _ k2 (.inr rfl))⟩⟩
theorem own_ne2 {k k' N N' : Nat} {T T' : TypeId} {h : Heap} {a b : Option Addr} {c d : Nat} (x : Own k T N h a c) (y : Own k' T' N' h b d) (hT : T ≠ T') {p : Nat} (hp : blkA a p) : ¬ blkA b p := fun hq => by
  rcases x with ⟨rfl, _⟩ | ⟨b1, o1, cs1, rfl, _, r1, _⟩
  · exact blkA_none hp
  · rw [blkA_some] at hp; subst hp
    exact own_ne y r1 (Ne.symm hT) hq
set_option maxHeartbeats 6400000 in
theorem reclaim_r (sv : Shs h a c L) (hb : Bd L) (hw : Wf L) (at_ bits hashes : Int) : HC Try.prog 14 #[.slice a L.length c, .int .i64 at_, .int .i64 bits, .int .i64 hashes] h fun v h' => Ext h h' ∧
    ∃ e Y a' c', Rec L at_ bits hashes e Y ∧ v = .tuple #[.slice a' Y.length c', .int .i64 e] ∧ ShO h.size h' a' c' Y := by
  have hb1 := hb.len
  refine f14_sh _ _ _ _ _ _ _ _ ((check_r sv hb).mono ?_)
  rintro _ h1 ⟨rfl, x1⟩
  refine ⟨x1, _, rfl, fun e => ?_, fun e => ?_⟩
  · have hg : ¬ Good L := fun g => by rw [chk_yes g] at e; simp at e
    exact ⟨x1, 170, [], none, 0, .inl ⟨hg, rfl, rfl⟩, by rw [chk_no hg]; rfl, ShO.nil _ _⟩
  have hg : Good L := chk_ok.1 (by simpa using e)
  have hrange : ((decide (at_ < 0)) || (decide (at_ ≥ (L.length : Int)))) = !decide (0 ≤ at_ ∧ at_ < L.length) := by
    have : (0 ≤ at_ ∧ at_ < (L.length : Int)) ↔ ¬ (at_ < 0 ∨ at_ ≥ (L.length : Int)) := by omega
    rw [decide_eq_decide.2 this, decide_not, Bool.not_not, Bool.decide_or]
  rw [hrange]
  refine ⟨fun e2 => ?_, fun e2 => ?_⟩
  · have hr : ¬ (0 ≤ at_ ∧ at_ < L.length) := by rw [Bool.not_eq_true'] at e2; exact of_decide_eq_false e2
    exact ⟨x1, 1, [], none, 0, .inr (.inl ⟨hg, hr, rfl, rfl⟩), rfl, ShO.nil _ _⟩
  have hr : 0 ≤ at_ ∧ at_ < L.length := by rw [Bool.not_eq_false'] at e2; exact of_decide_eq_true e2
  obtain ⟨hr0, hr1⟩ := hr
  refine (new_r bits hashes h1).mono ?_
  rintro _ h2 ⟨x2, ⟨hno, rfl⟩ | ⟨hok, p, w, rfl, hp, hw', f1⟩⟩
  · exact ⟨x2, none, 150, rfl, fun _ => ⟨x1.trans x2, 150, [], none, 0, .inr (.inr (.inl ⟨hg, ⟨hr0, hr1⟩, hno, rfl, rfl⟩)), rfl, ShO.nil _ _⟩, fun e => (by simp at e)⟩
  refine ⟨x2, some ⟨p, 0, none⟩, 0, rfl, fun e => (by simp at e), fun _ => ?_⟩
  have x02 := x1.trans x2
  generalize hn : at_.toNat = n at *
  have hna : at_ = n := by omega
  subst hna
  have hnl : n < L.length := by omega
  refine ⟨fun out m c' lw ln lc gr v h4 => ∃ (k : Nat) (P : List (Option Addr)), v = k ∧ k ≤ L.length ∧ gr = mostS (L.take k) ∧ m = (butT L n k).length ∧ ln = P.length ∧ Ext h h4 ∧ ShO h.size h4 out c' (butT L n k) ∧ FlsR h4 bits.toNat hashes.toNat lw lc P (lowG bits.toNat hashes.toNat (L.take k) (getS L n).seq) ∧ Own ePt.k tPr h.size h4 lw lc ∧ (∀ b, blkA out b → ¬ blkA lw b), fun _ _ _ _ _ _ _ v _ => L.length - v.toNat, ⟨0, [], rfl, Nat.zero_le _, rfl, by simp [butT], rfl, x02, by simpa [butT] using ShO.nil _ _, FlsR.nil _ _ _, Own.nil _ _ _ _, fun b hb => (blkA_none hb).elim⟩, ?_⟩
  rintro out _ c' lw _ lc _ _ h3 ⟨k, P, rfl, hk, rfl, rfl, rfl, x3, o3, f3, w3, n3⟩
  have sv3 := sv.ext x3
  obtain ⟨lb, lo, na, nc, el, d1, d2, nr⟩ := sv3.at_ (i := n) (by omega) (by omega)
  refine ⟨fun e3 => ?_, fun e3 => ?_⟩
  · have hkl := lt_of_dec e3
    obtain ⟨lb', lo', ka, kc, el', k1, k2, kr⟩ := sv3.at_ (i := k) (by omega) (by omega)
    rw [el] at el'; cases el'
    have hmk := getS_mem (L := L) (i := k) (by omega) (by omega)
    have hbr := hb.recs _ hmk
    have hss := good_small hg _ hmk
    have hst : k ≠ n → butT L n (k + 1) = butT L n k ++ [getS L k] := butT_step hkl
    have hms := mostS_take hkl
    have hbl := butT_len (k := k) hnl
    have hlow := lowG_take (b := bits.toNat) (s := hashes.toNat) (q := (getS L n).seq) hkl
    have hPl : P.length ≤ k := by
      rw [f3.2.1]
      have := lowG_len bits.toNat hashes.toNat (L.take k) (getS L n).seq
      rw [List.length_take] at this; omega
    have hself : k = n → lowG bits.toNat hashes.toNat (L.take (k + 1)) (getS L n).seq = lowG bits.toNat hashes.toNat (L.take k) (getS L n).seq := fun e => by
      rw [hlow, e, if_neg (by omega), List.append_nil]
    generalize hS : getS L k = S at *
    refine ⟨fun o m cc l ln lc' g h5 => ∃ P' : List (Option Addr), g = mostS (L.take (k + 1)) ∧ m = (butT L n (k + 1)).length ∧ ln = P'.length ∧ Ext h h5 ∧ ShO h.size h5 o cc (butT L n (k + 1)) ∧ FlsR h5 bits.toNat hashes.toNat l lc' P' (lowG bits.toNat hashes.toNat (L.take (k + 1)) (getS L n).seq) ∧ Own ePt.k tPr h.size h5 l lc' ∧ (∀ b, blkA o b → ¬ blkA l b), ⟨max (mostS (L.take k)) S.seq, ⟨lb, lo, el, by omega, by omega, _, k1, fun e4 => ?_, fun e4 => ?_⟩, fun e4 => ?_, fun e4 => ?_⟩, ?_⟩
    · have := of_decide_eq_true e4; omega
    · have := of_decide_eq_false e4; omega
    · have hkn : k = n := by have := eq_of_beq e4; omega
      refine ⟨P, hms.symm, by rw [hkn, butT_at], rfl, x3, by rw [hkn, butT_at]; rw [hkn] at o3; exact o3, by rw [hself hkn]; exact f3, w3, n3⟩
    · have hkn : k ≠ n := fun q => by rw [q] at e4; simp at e4
      refine ⟨fun x y => Fr (fun b => h3.size ≤ b) x y, fit_fr _, lb, lo, el, by omega, by omega, S.seq, fun hx fx => ?_, ka, _, kc, k2, fun nb h5 en e5 => ?_⟩
      · have := fx.block lb (hcell_lt k1) (by have := hcell_lt k1; omega)
        unfold hcell at k1 ⊢; rw [this]; exact k1
      have x5 : Ext h3 h5 := by rw [e5]; exact Ext.push _ _
      refine copyR rfl rfl en e5 (kr.ext x5) hbr fun a6 c6 h6 x6 f6 s6 w6 => ⟨f6, a6, _, c6, rfl, fun nb1 h7 en1 e7 => ?_⟩
      have z3 := x3.size
      have z6 := x6.size
      have o6 := o3.ext x6
      refine ShO.app (S := S) rfl o6 en1 e7 rfl s6 (w6.down z3) (by omega) (by omega) fun a8 c8 h8 f8 o8 bl => ⟨a8, _, c8, rfl, ?_⟩
      obtain ⟨K6, oK⟩ := o6
      have nlow : ∀ b, blkA out b → h.size ≤ b := fun b hb => (oK.own.low hb).1
      have x08 : Ext h h8 := (((x3.trans x6).fr _).trans f8 fun _ _ q => q).ext fun i hi q => by have := nlow i q; omega
      have nlw : ∀ b, blkA lw b → ¬ blkA out b := fun b hb q => n3 b q hb
      have f68 : FlsR h8 bits.toNat hashes.toNat lw lc P (lowG bits.toNat hashes.toNat (L.take k) (getS L n).seq) := (f3.ext x6).fr f8 nlw fun q cs T fr r hT hb => by
        rcases hT with rfl | rfl
        · exact own_ne oK.own r (by decide) hb
        · exact own_ne oK.own r (by decide) hb
      have w68 : Own ePt.k tPr h.size h8 lw lc := (w3.ext x6).fr f8 nlw
      have sv8 := sv.ext x08
      obtain ⟨lb8, lo8, ka8, kc8, el8, k18, k28, kr8⟩ := sv8.at_ (i := k) (by omega) (by omega)
      rw [el] at el8; cases el8
      obtain ⟨lb9, lo9, na9, nc9, el9, d19, d29, nr9⟩ := sv8.at_ (i := n) (by omega) (by omega)
      rw [el] at el9; cases el9
      rw [hS] at k18 k28 kr8
      have hl2 : (butT L n k).length + 1 = (butT L n (k + 1)).length := by rw [hst hkn, List.length_append]; rfl
      refine ⟨_, k18, by omega, by omega, _, d19, fun e9 => ?_, fun e9 => ?_⟩
      · have hlt := of_decide_eq_true e9
        rw [if_pos hlt] at hlow
        refine ⟨ka8, _, kc8, k28, (filter_r bits hashes kr8 hss hbr).mono ?_⟩
        rintro _ h9 ⟨x9, ⟨hno, rfl⟩ | ⟨_, fp, fw, rfl, _, _, ff⟩⟩
        · exact absurd hok hno
        refine ⟨x9, some ⟨fp, 0, none⟩, 0, rfl, fun nb2 h10 en2 e10 => ?_⟩
        have w9 := w68.ext x9
        have o9 := o8.ext x9
        refine FlsR.app (g := some (fltR bits.toNat hashes.toNat S.recs)) rfl (f68.ext x9) w9 en2 e10 (.inr ⟨fp, fw, _, rfl, rfl, ff⟩) (by have := x08.size; have := x9.size; omega) (by omega) fun a11 c11 h11 f11 g11 w11 => ⟨a11, _, c11, rfl, P ++ [some ⟨fp, 0, none⟩], hms.symm, hl2, by simp, ?_, ?_, by rw [hlow]; exact g11, w11, ?_⟩
        · exact (((x08.trans x9).fr _).trans f11 fun _ _ q => q).ext fun i hi q => by have := (w9.low q).1; omega
        · rw [hst hkn]
          obtain ⟨K9, q9⟩ := o9
          refine ⟨K9, q9.sl.fr f11 fun b hb q => own_ne2 q9.own w9 (by decide) hb q, q9.own.fr f11 fun b hb q => own_ne2 q9.own w9 (by decide) hb q, q9.len, fun i x S' h1 h2 => ?_⟩
          obtain ⟨ra', rc', e, p1, p2⟩ := q9.recs_ i x S' h1 h2
          exact ⟨ra', rc', e, p1.fr f11 fun b hb q => own_ne2 p2 w9 (by decide) hb q, p2.fr f11 fun b hb q => own_ne2 p2 w9 (by decide) hb q⟩
        · intro b hb q
          obtain ⟨K9, q9⟩ := o9
          have q9o : Own eKw.k tSf h.size h11 a8 c8 := q9.own.fr f11 fun b hb q => own_ne2 q9.own w9 (by decide) hb q
          exact own_ne2 q9o w11 (by decide) hb q
      · have hlt := of_decide_eq_false e9
        rw [if_neg hlt, List.append_nil] at hlow
        refine ⟨P, hms.symm, hl2, rfl, x08, by rw [hst hkn]; exact o8, by rw [hlow]; exact f68, w68, fun b hb q => ?_⟩
        obtain ⟨K8, q8⟩ := o8
        exact own_ne2 q8.own w68 (by decide) hb q
    · rintro o _ cc l _ lc' _ h5 ⟨P', rfl, rfl, rfl, x5, o5, f5, w5, n5⟩
      rw [wadd k (by omega)]
      exact ⟨⟨k + 1, P', rfl, hkl, rfl, rfl, rfl, x5, o5, f5, w5, n5⟩, by show L.length - Int.toNat _ < L.length - Int.toNat _; omega⟩
  · have hke : k = L.length := by have := ge_of_dec e3; omega
    subst hke
    rw [butT_all hnl] at o3 ⊢
    rw [List.take_length] at f3 ⊢
    have hmA := getS_mem (L := L) (i := n) (by omega) (by omega)
    have hPl : P.length ≤ 4611686018427387904 := by
      rw [f3.2.1]; have := lowG_len bits.toNat hashes.toNat L (getS L n).seq; omega
    refine ⟨lb, lo, el, by omega, by omega, na, _, nc, d2, (needed_r nr (good_small hg _ hmA) (hb.recs _ hmA) (fun r hr => (hw.ver _ hmA r hr).1) f3 hPl).mono ?_⟩
    rintro _ h4 ⟨x4, da, dc, D, hD, rfl, sD, wD⟩
    refine ⟨x4, da, _, dc, rfl, ?_⟩
    have x04 := x3.trans x4
    have o4 := o3.ext x4
    have recc := fun {e : Int} {Y : List Sf} (q : (D = [] ∧ e = 0 ∧ Y = but L n) ∨ (D ≠ [] ∧ mostS L = 18446744073709551615 ∧ e = 3 ∧ Y = []) ∨ (D ≠ [] ∧ mostS L ≠ 18446744073709551615 ∧ e = 0 ∧ Y = but L n ++ [⟨mostS L + 1, D⟩])) =>
      (show Rec L n bits hashes e Y from .inr (.inr (.inr ⟨hg, ⟨hr0, hr1⟩, hok, D, hD, by rw [Int.toNat_natCast]; exact q⟩)))
    refine ⟨fun e4 => ?_, fun e4 => ⟨fun e5 => ?_, fun e5 nb h14 en e14 => ?_⟩⟩
    · have hD0 : D = [] := List.length_eq_zero_iff.1 (by have : ((D.length : Int) == 0) = true := e4; simp at this; simp [this])
      exact ⟨x04, 0, _, out, c', recc (.inl ⟨hD0, rfl, rfl⟩), rfl, o4⟩
    · have hD0 : D ≠ [] := fun q => by rw [q] at e4; simp at e4
      exact ⟨x04, 3, [], none, 0, recc (.inr (.inl ⟨hD0, eq_of_beq e5, rfl, rfl⟩)), rfl, ShO.nil _ _⟩
    · have hD0 : D ≠ [] := fun q => by rw [q] at e4; simp at e4
      have hM : mostS L ≠ 18446744073709551615 := by simpa using e5
      have hnn := mostS_nn L
      have hlt : mostS L < 18446744073709551616 := mostS_lt (by decide) fun S hS => (hw.seq S hS).2
      rw [wu64 (by omega) (by omega)] at e14
      have hbl := butT_len (k := L.length) hnl
      rw [butT_all hnl] at hbl
      have nlow : ∀ b, blkA out b → h.size ≤ b := by
        obtain ⟨K4, q4⟩ := o4
        exact fun b hb => (q4.own.low hb).1
      refine ShO.app (S := ⟨mostS L + 1, D⟩) rfl o4 en e14 rfl sD (wD.down x3.size) (by have := x04.size; omega) (by omega) fun a' c'' h15 f15 o15 bl => ⟨a', _, c'', rfl, ?_, 0, _, a', c'', recc (.inr (.inr ⟨hD0, hM, rfl, rfl⟩)), by simp, o15⟩
      exact ((x04.fr _).trans f15 fun _ _ q => q).ext fun i hi q => by have := nlow i q; omega
end
end Cy
end Go.Proofs.Ytcdpapdefdnknaa
namespace Go.Proofs.Ytcdpapdefdnknaa
namespace Cy
open Go
abbrev tPa : TypeId := 43
def ePr : Elt Rc := ⟨2, fun r => [.string r.key, .string r.val], fun _ => rfl, fun r v hv => by simp at hv; rcases hv with rfl | rfl <;> rfl⟩
theorem aPa : AppT Try.prog 39 tPa ePr.k 32 := ⟨by kernel_rfl, by kernel_rfl, by kernel_rfl, ⟨.agg #[.string ByteArray.empty, .string ByteArray.empty], [.string ByteArray.empty, .string ByteArray.empty], by unfold zeroB; kernel_rfl, rfl, rfl⟩, by decide⟩
theorem recsIn_len {L : List Sf} {Lo : List Int} (a : IsOrd L Lo) : (recsIn L Lo).length = (allR L).length := by
  have := (a.map.flatMap_right fun S => S.recs).length_eq
  unfold recsIn allR
  rw [← this, List.flatMap_map]
section
variable {h : Heap} {a b : Option Addr} {c d : Nat} {L : List Sf}
set_option maxHeartbeats 1600000 in
theorem newest_c (s : Shs h a c L) (hb : Bd L) (hN : (allR L).length * 48 ≤ 140737488351232) : HC Try.prog 31 #[.slice a L.length c] h fun v h' => Ext h h' ∧ ∃ Lo a' c', IsOrd L Lo ∧ v = .slice a' (liveL (recsIn L Lo)).length c' ∧ Sl eRc h' a' c' (liveL (recsIn L Lo)) := by
  refine f31_sh _ _ _ _ _ ((newest_m s hb).mono ?_)
  rintro _ h1 ⟨x1, mb, Lo, kv, rfl, hmb, hO, m1, b1, n1⟩
  have hrl := recsIn_len hO
  have hD := live_sorted (recsIn L Lo)
  have hnd := m1.nodup
  refine ⟨x1, some mb, rfl, f48_sh _ _ _ fun kb h2 e2 eh2 => ⟨_, rfl, ?_⟩⟩
  have x2 : Ext h1 h2 := by rw [eh2]; exact Ext.push _ _
  have r2 : h2[kb]? = some (.cells #[.map (some mb)] 92 (0, 0)) := by rw [eh2]; exact push_new e2
  have hu : ∀ p ∈ kv, ∃ x : Rc, p.2 = foV x := fun p hp => let ⟨f, _, _, hv⟩ := b1.entry hnd hp; ⟨f, hv⟩
  refine (sorted_c (h := h2) (kv := kv) (Nat.lt_of_lt_of_le m1.lt x2.size) (keys_tell2 (fun h3 x3 => by rw [hcell_row (x3.row r2)]; rfl) (m1.ext x2) hu) (by omega) hnd).mono ?_
  rintro _ h3 ⟨x3, ka, kc, ks, rfl, hp, hsrt, s3, w3⟩
  generalize hDD : liveL (recsIn L Lo) = D at *
  have hksl := hp.length_eq
  rw [List.length_map] at hksl
  have x13 := x2.trans x3
  have hfk : ∀ k ∈ ks, ∃ f, fnd D k = some f ∧ lk kv k = some (foV f) := fun k hk => by
    obtain ⟨p, hp', rfl⟩ := List.mem_map.1 (hp.mem_iff.1 hk)
    have h1 := lk_of_mem hnd hp'
    have h2 := b1 p.1
    rw [h1] at h2
    cases hf : fnd D p.1 with
    | none => rw [hf] at h2; cases h2
    | some f => rw [hf] at h2; exact ⟨f, rfl, by rw [h1]; exact h2⟩
  have hfin : ks.filterMap (fnd D) = D := by
    refine rise_eq ?_ hD fun x => ?_
    · rw [List.pairwise_filterMap]
      refine hsrt.imp fun {x y} hxy f hf g hg => ?_
      have e1 := (fnd_mem hf).2
      have e2 := (fnd_mem hg).2
      unfold kLt; rw [e1, e2]; exact hxy
    · rw [List.mem_filterMap]
      constructor
      · rintro ⟨k, _, hf⟩; exact (fnd_mem hf).1
      · intro hx
        refine ⟨x.key, ?_, fnd_self hD hx⟩
        rw [hp.mem_iff]
        exact List.mem_map.2 ⟨_, b1.back hD hx, rfl⟩
  have hOl : ∀ j, ((ks.take j).filterMap (fnd D)).length ≤ j := fun j => by
    have := List.length_filterMap_le (fnd D) (ks.take j)
    rw [List.length_take] at this; omega
  refine ⟨ka, _, kc, rfl, fun out n c' v h4 => ∃ j : Nat, v = j ∧ j ≤ ks.length ∧ n = ((ks.take j).filterMap (fnd D)).length ∧ Ext h3 h4 ∧ Sl eRc h4 out c' ((ks.take j).filterMap (fnd D)) ∧ Own eRc.k tRc h3.size h4 out c', fun _ _ _ v _ => ks.length - v.toNat, ⟨0, rfl, Nat.zero_le _, rfl, Ext.refl _, Sl.nil _ _, Own.nil _ _ _ _⟩, ?_⟩
  rintro out _ c' _ h4 ⟨j, rfl, hj, rfl, x4, s4, w4⟩
  refine ⟨fun e => ?_, fun e => ?_⟩
  rotate_left
  · have hje : j = ks.length := by have := ge_of_dec e; omega
    subst hje
    rw [List.take_length, hfin] at s4 ⊢
    exact ⟨x1.trans (x13.trans x4), Lo, out, c', hO, by rw [hDD], by rw [hDD]; exact s4⟩
  have hjl := lt_of_dec e
  obtain ⟨f, hf, hl⟩ := hfk _ (List.getElem_mem hjl)
  have hO1 : (ks.take (j + 1)).filterMap (fnd D) = (ks.take j).filterMap (fnd D) ++ [f] := by
    rw [List.take_add_one, sl_get hjl, List.filterMap_append]
    congr 1
    simp [hf]
  obtain ⟨ob, oo, eo, dk⟩ := (s3.ext x4).at (sl_get hjl)
  have hOj := hOl j
  refine ⟨ob, oo, eo, by omega, by omega, _, dk.1, mb, rfl, kv, m1.ext (x13.trans x4), f.kind, f.ver, f.key, f.val, by rw [hl]; rfl, fun nb h5 en e5 => ?_⟩
  refine app_1 (x := f) aRc en e5 rfl s4 w4 rfl x4.size (by omega) fun a' c'' h6 f6 s6 w6 _ => ⟨a', _, c'', rfl, ?_⟩
  rw [wadd j (by omega)]
  refine ⟨⟨j + 1, rfl, hjl, by rw [hO1, List.length_append]; rfl, ((x4.fr _).trans f6 fun _ _ q => q).ext fun i hi q => ?_, by rw [hO1]; exact s6, w6⟩, by show ks.length - Int.toNat _ < ks.length - Int.toNat _; omega⟩
  have := (w4.low q).1; omega
theorem told_c (s : Shs h a c L) (hb : Bd L) (hN : (allR L).length * 48 ≤ 140737488351232) : HC Try.prog 15 #[.slice a L.length c] h fun v h' => Ext h h' ∧ ∃ Lo a' c', IsOrd L Lo ∧ v = .slice a' (toldL (liveL (recsIn L Lo))).length c' ∧ Sl ePr h' a' c' (toldL (liveL (recsIn L Lo))) := by
  refine f15_sh _ _ _ _ _ ((newest_c s hb hN).mono ?_)
  rintro _ h1 ⟨x1, Lo, na, nc, hO, rfl, s1⟩
  have hlen : (liveL (recsIn L Lo)).length ≤ (allR L).length := by rw [← recsIn_len hO]; exact live_len _
  generalize hDD : liveL (recsIn L Lo) = D at *
  have hTl : ∀ j, (toldL (D.take j)).length ≤ j := fun j => by
    unfold toldL
    have := List.length_filter_le (fun r : Rc => decide (r.kind = 1)) (D.take j)
    rw [List.length_take] at this; omega
  refine ⟨x1, na, _, nc, rfl, fun out n c' v h4 => ∃ j : Nat, v = j ∧ j ≤ D.length ∧ n = (toldL (D.take j)).length ∧ Ext h1 h4 ∧ Sl ePr h4 out c' (toldL (D.take j)) ∧ Own ePr.k tPa h1.size h4 out c', fun _ _ _ v _ => D.length - v.toNat, ⟨0, rfl, Nat.zero_le _, rfl, Ext.refl _, Sl.nil _ _, Own.nil _ _ _ _⟩, ?_⟩
  rintro out _ c' _ h4 ⟨j, rfl, hj, rfl, x4, s4, w4⟩
  refine ⟨fun e => ?_, fun e => ?_⟩
  rotate_left
  · have hje : j = D.length := by have := ge_of_dec e; omega
    subst hje
    rw [List.take_length] at s4 ⊢
    exact ⟨x1.trans x4, Lo, out, c', hO, by rw [hDD], by rw [hDD]; exact s4⟩
  have hjl := lt_of_dec e
  obtain ⟨ob, oo, eo, dk⟩ := (s1.ext x4).at (sl_get hjl)
  have hO1 : toldL (D.take (j + 1)) = toldL (D.take j) ++ if D[j].kind = 1 then [D[j]] else [] := by
    unfold toldL
    rw [List.take_add_one, sl_get hjl, List.filter_append]
    congr 1
    simp only [Option.toList_some, List.filter_cons, List.filter_nil, decide_eq_true_eq]
  generalize D[j] = f at *
  have hOj := hTl j
  refine ⟨fun o n cc h5 => n = (toldL (D.take (j + 1))).length ∧ Ext h1 h5 ∧ Sl ePr h5 o cc (toldL (D.take (j + 1))) ∧ Own ePr.k tPa h1.size h5 o cc, ⟨ob, oo, eo, by omega, by omega, _, _, _, _, dk.1, dk.2.1, dk.2.2.1, dk.2.2.2.1, fun e2 h5 x5 nb h6 en e6 => ?_, fun e2 h5 x5 => ?_⟩, ?_⟩
  · rw [if_pos (eq_of_beq e2)] at hO1
    have x15 := x4.trans x5
    refine app_1 (x := f) aPa en e6 rfl (s4.ext x5) (w4.ext x5) rfl x15.size (by omega) fun a' c'' h7 f7 s7 w7 _ => ⟨a', _, c'', rfl, ?_, ?_, by rw [hO1]; exact s7, w7⟩
    · rw [hO1, List.length_append]; rfl
    · exact ((x15.fr _).trans f7 fun _ _ q => q).ext fun i hi q => by have := (w4.low q).1; omega
  · have : ¬ f.kind = 1 := by simpa using e2
    rw [if_neg this, List.append_nil] at hO1
    rw [hO1]
    exact ⟨rfl, x4.trans x5, s4.ext x5, w4.ext x5⟩
  · rintro o _ cc h5 ⟨rfl, x5, s5, w5⟩
    rw [wadd j (by omega)]
    exact ⟨⟨j + 1, rfl, hjl, rfl, x5, s5, w5⟩, by show D.length - Int.toNat _ < D.length - Int.toNat _; omega⟩
theorem pairs_same {X Y : List Rc} (s : Sl ePr h a c X) (t : Sl ePr h b d Y) (hl : X.length ≤ 4611686018427387904) : HC Try.prog 24 #[.slice a X.length c, .slice b Y.length d] h fun v h' => (∃ r : Bool, v = .bool r ∧ (X = Y → r = true)) ∧ h' = h := by
  refine f24_sh _ _ _ _ _ _ _ _ ⟨fun e => ⟨⟨false, rfl, fun q => ?_⟩, rfl⟩, fun e => ⟨fun v => ∃ k : Nat, v = k ∧ k ≤ X.length, fun v => X.length - v.toNat, ⟨0, rfl, Nat.zero_le _⟩, ?_⟩⟩
  · subst q; simp at e
  rintro _ ⟨k, rfl, hk⟩
  have hlen : X.length = Y.length := by
    have : (X.length : Int) = Y.length := by simpa using e
    omega
  refine ⟨fun e => ?_, fun _ => ⟨⟨true, rfl, fun _ => rfl⟩, rfl⟩⟩
  have hkl := lt_of_dec e
  obtain ⟨b1, o1, e1, d1⟩ := s.at (List.getElem?_eq_getElem hkl)
  obtain ⟨b2, o2, e2, d2⟩ := t.at (List.getElem?_eq_getElem (show k < Y.length by omega))
  refine ⟨b1, o1, e1, by omega, by omega, _, _, d1.1, d1.2.1, b2, o2, e2, by omega, by omega, _, _, d2.1, d2.2.1, fun e => ⟨⟨false, rfl, fun q => ?_⟩, rfl⟩, fun _ => ?_⟩
  · subst q; simp [ba_refl] at e
  · rw [wadd k (by omega)]
    exact ⟨⟨k + 1, rfl, hkl⟩, by show X.length - Int.toNat _ < X.length - Int.toNat _; omega⟩
def kk : ByteArray := ByteArray.mk #[107]
def rA : Rc := ⟨1, 1, kk, ByteArray.mk #[97]⟩
def rB : Rc := ⟨1, 2, kk, ByteArray.mk #[98]⟩
def twoL : List Sf := [⟨1, [rA]⟩, ⟨2, [rB]⟩]
theorem two_good : Good twoL := by
  have hk : 1 ≤ kk.size ∧ kk.size ≤ 255 := ⟨by decide, by decide⟩
  refine ⟨fun S hS => ?_, ?_, fun S hS r hr => ?_, fun S hS => ?_, fun S hS T hT hlt x hx y hy => ?_⟩
  · simp only [twoL, List.mem_cons, List.not_mem_nil, or_false] at hS
    rcases hS with rfl | rfl <;> decide
  · simp [twoL]
  · simp only [twoL, List.mem_cons, List.not_mem_nil, or_false] at hS
    rcases hS with rfl | rfl
    · simp only [List.mem_singleton] at hr; subst hr; exact ⟨.inl rfl, hk⟩
    · simp only [List.mem_singleton] at hr; subst hr; exact ⟨.inl rfl, hk⟩
  · simp only [twoL, List.mem_cons, List.not_mem_nil, or_false] at hS
    rcases hS with rfl | rfl <;> exact List.pairwise_singleton _ _
  · simp only [twoL, List.mem_cons, List.not_mem_nil, or_false] at hS hT
    rcases hS with rfl | rfl <;> rcases hT with rfl | rfl <;> simp only at hlt
    · omega
    · simp only [List.mem_singleton] at hx hy
      subst hx; subst hy
      intro _ _; decide
    · omega
    · omega
theorem two_wf : Wf twoL := by
  refine ⟨fun S hS => ?_, fun S hS r hr => ?_⟩
  · simp only [twoL, List.mem_cons, List.not_mem_nil, or_false] at hS
    rcases hS with rfl | rfl <;> exact ⟨by decide, by decide⟩
  · simp only [twoL, List.mem_cons, List.not_mem_nil, or_false] at hS
    rcases hS with rfl | rfl <;> (simp only [List.mem_singleton] at hr; subst hr; exact ⟨by decide, by decide⟩)
theorem two_bd : Bd twoL := ⟨by decide, fun S hS => by
  simp only [twoL, List.mem_cons, List.not_mem_nil, or_false] at hS
  rcases hS with rfl | rfl <;> decide⟩
theorem two_c (h : Heap) : HC Try.prog 23 #[] h fun v h' => Ext h h' ∧ ∃ a c, v = .slice a twoL.length c ∧ Shs h' a c twoL := by
  refine f23_sh _ _ fun n1 h1 e1 eh1 n2 h2 e2 eh2 n3 h3 e3 eh3 => ?_
  have x1 : Ext h h1 := by rw [eh1]; exact Ext.push _ _
  have x2 : Ext h1 h2 := by rw [eh2]; exact Ext.push _ _
  have x3 : Ext h2 h3 := by rw [eh3]; exact Ext.push _ _
  have r1 : h1[n1]? = some (.cells (([rA] : List Rc).flatMap eRc.enc).toArray tRc (0, 0)) := by rw [eh1]; exact push_new e1
  have r2 : h2[n2]? = some (.cells (([rB] : List Rc).flatMap eRc.enc).toArray tRc (0, 0)) := by rw [eh2]; exact push_new e2
  have r3 : h3[n3]? = some (.cells (([⟨1, some ⟨n1, 0, none⟩, 1, 1⟩, ⟨2, some ⟨n2, 0, none⟩, 1, 1⟩] : List Kw).flatMap eKw.enc).toArray tSf (0, 0)) := by rw [eh3]; exact push_new e3
  refine ⟨x1.trans (x2.trans x3), some ⟨n3, 0, none⟩, 2, rfl, [⟨1, some ⟨n1, 0, none⟩, 1, 1⟩, ⟨2, some ⟨n2, 0, none⟩, 1, 1⟩], Sl.lit r3, rfl, fun i x S hx hS => ?_⟩
  match i with
  | 0 => cases hx; cases hS; exact ⟨_, _, rfl, Sl.lit ((x2.trans x3).row r1)⟩
  | 1 => cases hx; cases hS; exact ⟨_, _, rfl, Sl.lit (x3.row r2)⟩
  | n + 2 => cases hx
theorem told_two {Lo : List Int} (hO : IsOrd twoL Lo) : toldL (liveL (recsIn twoL Lo)) = [rB] := by
  have hs := live_sorted (recsIn twoL Lo)
  refine rise_eq (hs.filter _) (List.pairwise_singleton _ _) fun x => ?_
  rw [told_iff (two_good.flat hO), newP_congr (fun r => recsIn_mem hO)]
  have hm : ∀ r, r ∈ allR twoL ↔ r = rA ∨ r = rB := fun r => by simp [allR, twoL]
  unfold newP
  constructor
  · rintro ⟨h1, h2, h3⟩
    rcases (hm x).1 h1 with rfl | rfl
    · rcases h3 rB ((hm _).2 (.inr rfl)) rfl with q | q
      · have := congrArg Rc.ver q; simp [rA, rB] at this
      · simp [rA, rB] at q
    · simp
  · intro hx
    simp only [List.mem_singleton] at hx
    subst hx
    refine ⟨(hm _).2 (.inr rfl), rfl, fun o ho _ => ?_⟩
    rcases (hm o).1 ho with rfl | rfl
    · exact .inr (by decide)
    · exact .inl rfl
theorem rec_two {e : Int} {Y : List Sf} (r : Rec twoL 1 64 2 e Y) : e = 0 ∧ ∃ D, Y = [⟨1, [rA]⟩, ⟨3, D⟩] ∧ ∃ t ∈ D, t.key = kk ∧ 2 ≤ t.ver ∧ t.kind = 2 := by
  have hg := two_good
  have hlen : twoL.length = 2 := rfl
  rcases r with ⟨q, _⟩ | ⟨_, q, _⟩ | ⟨_, _, q, _⟩ | ⟨_, _, _, D, hD, r⟩
  · exact absurd hg q
  · exact absurd ⟨by decide, by rw [hlen]; decide⟩ q
  · exact absurd (show okF 64 2 from ⟨by decide, by decide, by decide, by decide⟩) q
  · have hF : anyF 64 2 (lowG 64 2 twoL (getS twoL 1).seq) kk = true := by
      have : lowG 64 2 twoL (getS twoL 1).seq = [some (fltR 64 2 [rA])] := by
        show lowG 64 2 twoL 2 = _
        simp [lowG, twoL]
      rw [this]
      simp only [anyF, List.any_cons, List.any_nil, Bool.or_false, sayF]
      exact may_new
    obtain ⟨t, ht, t1, t2, t3⟩ := hD.has (r := rB) (by show rB ∈ [rB]; simp) hF
    have hne : D ≠ [] := fun q => by rw [q] at ht; simp at ht
    have hms : mostS twoL = 2 := by decide
    rcases r with ⟨q, _⟩ | ⟨_, q, _⟩ | ⟨_, _, rfl, rfl⟩
    · exact absurd q hne
    · rw [hms] at q; exact absurd q (by decide)
    · refine ⟨rfl, D, ?_, t, ht, t1, t2, t3⟩
      rw [hms]; rfl
theorem Rec.good {L : List Sf} {at_ bits hashes e : Int} {Y : List Sf} (r : Rec L at_ bits hashes e Y) (he : e = 0) : Good L ∧ Good Y ∧ (0 ≤ at_ ∧ at_ < L.length) ∧ ∃ F D, Low L at_.toNat F ∧ IsT F (getS L at_).recs D ∧ (∀ r, r ∈ allR Y ↔ r ∈ allR (but L at_.toNat) ∨ r ∈ D) ∧ ((D = [] ∧ Y = but L at_.toNat) ∨ (Y = but L at_.toNat ++ [⟨mostS L + 1, D⟩] ∧ mostS L ≠ 18446744073709551615)) := by
  rcases r with ⟨_, q, _⟩ | ⟨_, _, q, _⟩ | ⟨_, _, _, q, _⟩ | ⟨g, hr, _, D, hD, r⟩
  · omega
  · omega
  · omega
  have hgl : getS L at_ = L[at_.toNat]'(by omega) := by
    have := getS_get hr.1 hr.2
    rw [List.getElem?_eq_getElem (by omega)] at this
    exact (Option.some.inj this).symm
  have hlow : Low L at_.toNat (anyF bits.toNat hashes.toNat (lowG bits.toNat hashes.toNat L (getS L at_).seq)) := by
    intro hk S hS hlt r hr'
    rw [← hgl] at hlt
    unfold anyF
    rw [List.any_eq_true]
    refine ⟨some (fltR bits.toNat hashes.toNat S.recs), ?_, ?_⟩
    · unfold lowG
      exact List.mem_map.2 ⟨S, List.mem_filter.2 ⟨hS, decide_eq_true hlt⟩, rfl⟩
    · show mayF _ _ (fltR _ _ S.recs) (hsh r.key) = true
      have key : ∀ (X : List Rc), r ∈ X → mayF bits.toNat hashes.toNat (fltR bits.toNat hashes.toNat X) (hsh r.key) = true := by
        intro X
        refine snoc_ind (p := fun X => r ∈ X → mayF bits.toNat hashes.toNat (fltR bits.toNat hashes.toNat X) (hsh r.key) = true) (fun h => by simp at h) (fun l x ih h => ?_) X
        have e : fltR bits.toNat hashes.toNat (l ++ [x]) = addF bits.toNat hashes.toNat (fltR bits.toNat hashes.toNat l) (hsh x.key) := by
          unfold fltR; rw [List.map_append]; exact flt_snoc _ _ _ _
        rw [e]
        rcases List.mem_append.1 h with h | h
        · exact may_old (ih h)
        · rw [List.mem_singleton.1 h]; exact may_new
      exact key S.recs hr'
  have hD' : IsT (anyF bits.toNat hashes.toNat (lowG bits.toNat hashes.toNat L (getS L at_).seq)) (L[at_.toNat]'(by omega)).recs D := by rw [← hgl]; exact hD
  rcases r with ⟨rfl, _, rfl⟩ | ⟨_, _, q, _⟩ | ⟨hne, hM, _, rfl⟩
  · exact ⟨g, good_but g _, hr, _, [], hlow, hD, fun r => by simp, .inl ⟨rfl, rfl⟩⟩
  · omega
  · refine ⟨g, good_tombs g (by omega) hD', hr, _, D, hlow, hD, fun r => ?_, .inr ⟨rfl, hM⟩⟩
    unfold allR
    rw [List.flatMap_append, List.mem_append]; simp
theorem Rec.back {L : List Sf} {at_ bits hashes e : Int} {Y : List Sf} (r : Rec L at_ bits hashes e Y) (he : e = 0) {x : Rc} (hx : newP (allR Y) x) : newP (allR L) x := by
  obtain ⟨g, _, hr, F, D, hlow, hD, hY, _⟩ := r.good he
  have hgl : getS L at_ = L[at_.toNat]'(by omega) := by
    have := getS_get hr.1 hr.2
    rw [List.getElem?_eq_getElem (by omega)] at this
    exact (Option.some.inj this).symm
  rw [hgl] at hD
  exact told_but g (by omega) hlow hD hY hx
end
end Cy
end Go.Proofs.Ytcdpapdefdnknaa
