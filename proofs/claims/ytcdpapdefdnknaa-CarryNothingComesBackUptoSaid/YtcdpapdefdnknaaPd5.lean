import Derived.Test.YtcdpapdefdnknaaProg
import Derived.Test.YtcdpapdefdnknaaPd1
import Derived.Test.YtcdpapdefdnknaaPd2
import Derived.Test.YtcdpapdefdnknaaPd3
import Derived.Test.YtcdpapdefdnknaaPd4
namespace Go.Proofs.Ytcdpapdefdnknaa
namespace Cy
open Go
theorem fit_ext : Fit Ext := ⟨fun _ _ x => x, fun _ _ _ a b => a.trans b⟩
abbrev tRc : TypeId := 36
abbrev tSf : TypeId := 34
abbrev tI : TypeId := 3
theorem aRc : AppT Try.prog 32 tRc eRc.k 48 := ⟨by kernel_rfl, by kernel_rfl, by kernel_rfl, ⟨.agg #[.int .i64 0, .int .u64 0, .string ByteArray.empty, .string ByteArray.empty], [.int .i64 0, .int .u64 0, .string ByteArray.empty, .string ByteArray.empty], by unfold zeroB; kernel_rfl, rfl, rfl⟩, by decide⟩
theorem aI : AppT Try.prog 38 tI Stb.eI.k 8 := ⟨by kernel_rfl, by kernel_rfl, by kernel_rfl, ⟨.int .i64 0, [.int .i64 0], by unfold zeroB; kernel_rfl, rfl, rfl⟩, by decide⟩
structure Kw where
  sq : Int
  ra : Option Addr
  rn : Nat
  rc : Nat
abbrev Kw.cs (x : Kw) : List Value := [.int .u64 x.sq, .slice x.ra x.rn x.rc]
def eKw : Elt Kw := ⟨2, Kw.cs, fun _ => rfl, fun r v hv => by simp at hv; rcases hv with rfl | rfl <;> rfl⟩
theorem aKw : AppT Try.prog 22 tSf eKw.k 32 := ⟨by kernel_rfl, by kernel_rfl, by kernel_rfl, ⟨.agg #[.int .u64 0, .slice none 0 0], [.int .u64 0, .slice none 0 0], by unfold zeroB; kernel_rfl, rfl, rfl⟩, by decide⟩
structure ShK (h : Heap) (a : Option Addr) (c : Nat) (K : List Kw) (L : List Sf) : Prop where
  sl : Sl eKw h a c K
  len : K.length = L.length
  recs_ : ∀ (i : Nat) x S, K[i]? = some x → L[i]? = some S → ∃ ra rc, x = ⟨S.seq, ra, S.recs.length, rc⟩ ∧ Sl eRc h ra rc S.recs
def Shs (h : Heap) (a : Option Addr) (c : Nat) (L : List Sf) : Prop := ∃ K, ShK h a c K L
structure ShOK (N : Nat) (h : Heap) (a : Option Addr) (c : Nat) (K : List Kw) (L : List Sf) : Prop where
  sl : Sl eKw h a c K
  own : Own eKw.k tSf N h a c
  len : K.length = L.length
  recs_ : ∀ (i : Nat) x S, K[i]? = some x → L[i]? = some S → ∃ ra rc, x = ⟨S.seq, ra, S.recs.length, rc⟩ ∧ Sl eRc h ra rc S.recs ∧ Own eRc.k tRc N h ra rc
def ShO (N : Nat) (h : Heap) (a : Option Addr) (c : Nat) (L : List Sf) : Prop := ∃ K, ShOK N h a c K L
structure Bd (L : List Sf) : Prop where
  len : L.length * 32 ≤ 140737488351232
  recs : ∀ S ∈ L, S.recs.length * 48 ≤ 140737488351232
section
variable {N : Nat} {h h' : Heap} {a : Option Addr} {c : Nat} {L : List Sf}
theorem ShO.shs (s : ShO N h a c L) : Shs h a c L := let ⟨K, s⟩ := s; ⟨K, s.sl, s.len, fun i x S h1 h2 => let ⟨ra, rc, e, p, _⟩ := s.recs_ i x S h1 h2; ⟨ra, rc, e, p⟩⟩
theorem Shs.ext (s : Shs h a c L) (x : Ext h h') : Shs h' a c L := let ⟨K, s⟩ := s; ⟨K, s.sl.ext x, s.len, fun i y S h1 h2 => let ⟨ra, rc, e, p⟩ := s.recs_ i y S h1 h2; ⟨ra, rc, e, p.ext x⟩⟩
theorem ShO.ext (s : ShO N h a c L) (x : Ext h h') : ShO N h' a c L := let ⟨K, s⟩ := s; ⟨K, s.sl.ext x, s.own.ext x, s.len, fun i y S h1 h2 => let ⟨ra, rc, e, p, q⟩ := s.recs_ i y S h1 h2; ⟨ra, rc, e, p.ext x, q.ext x⟩⟩
theorem ShO.down {M : Nat} (s : ShO N h a c L) (hM : M ≤ N) : ShO M h a c L := let ⟨K, s⟩ := s; ⟨K, s.sl, s.own.down hM, s.len, fun i y S h1 h2 => let ⟨ra, rc, e, p, q⟩ := s.recs_ i y S h1 h2; ⟨ra, rc, e, p, q.down hM⟩⟩
theorem Shs.at_ (s : Shs h a c L) {i : Int} (h0 : 0 ≤ i) (h1 : i < L.length) : ∃ b o ra rc, a = some ⟨b, o, none⟩ ∧ hcell h b (o + i.toNat * 2) = some (.int .u64 (getS L i).seq) ∧ hcell h b (o + i.toNat * 2 + 1) = some (.slice ra (getS L i).recs.length rc) ∧ Sl eRc h ra rc (getS L i).recs := by
  obtain ⟨K, s⟩ := s
  have hlt : i.toNat < K.length := by have := s.len; omega
  have hK : K[i.toNat]? = some (K[i.toNat]'hlt) := List.getElem?_eq_getElem hlt
  obtain ⟨ra, rc, e, sr⟩ := s.recs_ i.toNat _ _ hK (getS_get h0 h1)
  obtain ⟨b, o, ea, d⟩ := s.sl.at hK
  rw [e] at d
  exact ⟨b, o, ra, rc, ea, d.1, d.2.1, sr⟩
theorem Shs.le (s : Shs h a c L) : L.length ≤ c := let ⟨K, s⟩ := s; by have := s.sl.le; have := s.len; omega
theorem ShO.nil (N : Nat) (h : Heap) : ShO N h none 0 [] := ⟨[], Sl.nil _ _, Own.nil _ _ _ _, rfl, fun i x S h => by rw [List.getElem?_nil] at h; cases h⟩
theorem ShO.app {t : TypeId} {nb : Nat} {h1 : Heap} {ra : Option Addr} {rc : Nat} {S : Sf} {cs : Array Value} (ht : t = 22) (s : ShO N h a c L) (eb : nb = h.size) (eh : h1 = h.push (.cells cs tSf)) (ec : cs = #[.int .u64 S.seq, .slice ra S.recs.length rc]) (sr : Sl eRc h ra rc S.recs) (wr : Own eRc.k tRc N h ra rc) (hN : N ≤ h.size) (hsz : (L.length + 1) * 32 ≤ 140737488355328) {K : Value → Heap → Prop}
    (hk : ∀ a' c' h', Fr (blkA a) h h' → ShO N h' a' c' (L ++ [S]) → (∀ b, blkA a' b → blkA a b ∨ h.size ≤ b) → K (.slice a' (L.length + 1) c') h') :
    HAppend Try.prog t t (.slice a L.length c) (.slice (some ⟨nb, 0, none⟩) 1 1) h1 K := by
  subst ht
  obtain ⟨Kw_, s⟩ := s
  have hl := s.len
  rw [← hl]
  refine app_1 (x := (⟨S.seq, ra, S.recs.length, rc⟩ : Kw)) aKw eb eh (by rw [ec]; rfl) s.sl s.own rfl hN (by rw [hl]; exact hsz) fun a' c' h' f s' w' bl => ?_
  rw [hl]
  refine hk a' c' h' f ⟨_, s', w', by simp [hl], fun i x S' hx hS => ?_⟩ bl
  have nn : ∀ {ra' : Option Addr} {rc' : Nat}, Own eRc.k tRc N h ra' rc' → ∀ b, blkA ra' b → ¬ blkA a b := fun w b hb q => by
    rcases s.own with ⟨e, _⟩ | ⟨b1, o1, cs1, e, _, r1, _⟩
    · rw [e] at q; exact blkA_none q
    · rw [e, blkA_some] at q; subst q; exact own_ne w r1 (by decide) hb
  by_cases hi : i < Kw_.length
  · rw [List.getElem?_append_left hi] at hx
    rw [List.getElem?_append_left (by omega)] at hS
    obtain ⟨ra', rc', e, p, q⟩ := s.recs_ i x S' hx hS
    exact ⟨ra', rc', e, p.fr f (nn q), q.fr f (nn q)⟩
  · rw [List.getElem?_append_right (by omega)] at hx hS
    rw [hl] at hx
    generalize i - L.length = j at *
    cases j with
    | zero =>
      simp at hx hS
      subst hx; subst hS
      exact ⟨ra, rc, rfl, sr.fr f (nn wr), wr.fr f (nn wr)⟩
    | succ j => simp at hx
end
section
variable {h : Heap} {a b : Option Addr} {c d : Nat}
theorem copyR {t u : TypeId} (ht : t = 32) (hu : u = 32) {nb : Nat} {h1 : Heap} {X : List Rc} (eb : nb = h.size) (eh : h1 = h.push (.cells #[] tRc)) (s : Sl eRc h1 a c X) (hl : X.length * 48 ≤ 140737488351232) {K : Value → Heap → Prop}
    (hk : ∀ a' c' h', Ext h h' → Fr (fun b => h.size ≤ b) h1 h' → Sl eRc h' a' c' X → Own eRc.k tRc h.size h' a' c' → K (.slice a' X.length c') h') : HAppend Try.prog t u (.slice (some ⟨nb, 0, none⟩) 0 0) (.slice a X.length c) h1 K := by
  subst ht; subst hu
  have hrow : h1[nb]? = some (.cells (([] : List Rc).flatMap eRc.enc).toArray tRc (0, 0)) := by rw [eh]; exact push_new eb
  have hx : Ext h h1 := by rw [eh]; exact Ext.push _ _
  refine app_own (E := eRc) (L := []) (h0 := h) (n := 0) (n2 := X.length) aRc hx (Sl.lit hrow) (Own.lit hrow (by omega)) rfl s rfl (by omega) fun a' c' h' x f s' w' bl => ?_
  rw [Nat.zero_add]
  exact hk a' c' h' x (f.mono fun i _ q => by rw [blkA_some] at q; omega) (by simpa using s') w'
theorem fit_fr (M : Nat) : Fit (fun x y => Fr (fun b => M ≤ b) x y) := ⟨fun _ _ x => x.fr _, fun _ _ _ a b => a.trans b fun _ _ q => q⟩
theorem clone_m {X : List Rc} (s : Sl eRc h a c X) (hl : X.length * 48 ≤ 140737488351232) : HC Try.prog 29 #[.slice a X.length c] h fun v h' => Ext h h' ∧ ∃ a' c', v = .slice a' X.length c' ∧ Sl eRc h' a' c' X ∧ Own eRc.k tRc h.size h' a' c' := by
  refine f29_sh _ _ _ _ _ ⟨fun e => ?_, fun _ nb h1 en e1 => ?_⟩
  · have ea : a = none := by cases a; rfl; cases e
    subst ea
    have hL : X = [] := by
      rcases s.ex with q | ⟨_, _, q, _⟩
      · have := s.le
        exact List.length_eq_zero_iff.1 (by omega)
      · cases q
    subst hL
    exact ⟨Ext.refl _, none, 0, rfl, Sl.nil _ _, Own.nil _ _ _ _⟩
  · have x1 : Ext h h1 := by rw [e1]; exact Ext.push _ _
    exact copyR rfl rfl en e1 (s.ext x1) hl fun a' c' h' x _ s' w' => ⟨a', _, c', rfl, x, a', c', rfl, s', w'⟩
theorem ba_refl (x : ByteArray) : (x == x) = true := by rw [ba_beq]; simp
theorem recs_same {X Y : List Rc} (s : Sl eRc h a c X) (t : Sl eRc h b d Y) (hl : X.length ≤ 4611686018427387904) : HC Try.prog 20 #[.slice a X.length c, .slice b Y.length d] h fun v h' => (∃ r : Bool, v = .bool r ∧ (X = Y → r = true)) ∧ h' = h := by
  refine f20_sh _ _ _ _ _ _ _ _ ⟨fun e => ⟨⟨false, rfl, fun q => ?_⟩, rfl⟩, fun e => ⟨fun v => ∃ k : Nat, v = k ∧ k ≤ X.length, fun v => X.length - v.toNat, ⟨0, rfl, Nat.zero_le _⟩, ?_⟩⟩
  · subst q; simp at e
  rintro _ ⟨k, rfl, hk⟩
  have hlen : X.length = Y.length := by
    have : (X.length : Int) = Y.length := by simpa using e
    omega
  refine ⟨fun e => ?_, fun _ => ⟨⟨true, rfl, fun _ => rfl⟩, rfl⟩⟩
  have hkl := lt_of_dec e
  obtain ⟨b1, o1, e1, d1⟩ := s.at (List.getElem?_eq_getElem hkl)
  obtain ⟨b2, o2, e2, d2⟩ := t.at (List.getElem?_eq_getElem (show k < Y.length by omega))
  refine ⟨b1, o1, e1, by omega, by omega, _, _, _, _, d1.1, d1.2.1, d1.2.2.1, d1.2.2.2.1, b2, o2, e2, by omega, by omega, _, _, _, _, d2.1, d2.2.1, d2.2.2.1, d2.2.2.2.1, fun e => ⟨⟨false, rfl, fun q => ?_⟩, rfl⟩, fun _ => ?_⟩
  · subst q; simp [ba_refl] at e
  · rw [wadd k (by omega)]
    exact ⟨⟨k + 1, rfl, hkl⟩, by show X.length - Int.toNat _ < X.length - Int.toNat _; omega⟩
end
end Cy
end Go.Proofs.Ytcdpapdefdnknaa
namespace Go.Proofs.Ytcdpapdefdnknaa
namespace Cy
open Go
def ucmp (x y : Int) : Int := if x < y then -1 else if y < x then 1 else 0
theorem ucmp_lt {x y : Int} : ucmp x y < 0 ↔ x < y := by
  unfold ucmp
  by_cases h : x < y
  · rw [if_pos h]; exact ⟨fun _ => h, fun _ => by decide⟩
  · rw [if_neg h]
    refine ⟨fun q => ?_, fun q => absurd q h⟩
    split at q <;> omega
section
variable {h : Heap} {a : Option Addr} {c : Nat} {L : List Sf}
theorem cmpU_c (x y : Int) (h : Heap) : HC Try.prog 46 #[.int .u64 x, .int .u64 y] h fun v h' => v = .int .i64 (ucmp x y) ∧ h' = h := by
  unfold ucmp
  have nan : ∀ z : Int, HC Try.prog 58 #[.int .u64 z] h fun vv h' => vv = .bool false ∧ h' = h := fun z => f58_sh _ _ _ ⟨by simp, rfl⟩
  refine f46_sh _ _ _ _ ⟨false, nan x, false, nan y, fun g => (by simp at g), fun _ => ⟨fun g => (by simp at g), fun _ => ⟨fun e => ⟨?_, rfl⟩, fun e => ⟨fun e2 => ⟨?_, rfl⟩, fun e2 => ⟨?_, rfl⟩⟩⟩⟩⟩
  · rw [if_pos (of_decide_eq_true e)]
  · rw [if_neg (of_decide_eq_false e), if_pos (of_decide_eq_true e2)]
  · rw [if_neg (of_decide_eq_false e), if_neg (of_decide_eq_false e2)]
theorem cbO : CallB Try.prog 45 := fun _ _ => Try.call45 _ _
theorem less_m (s : Shs h a c L) {lb : Nat} {T : TypeId} {fr : Nat × Nat} (r : h[lb]? = some (.cells #[.slice a L.length c] T fr)) {u v : Int} (hu : 0 ≤ u ∧ u < L.length) (hv : 0 ≤ v ∧ v < L.length) :
    HC Try.prog 45 #[.int .i64 u, .int .i64 v, ptr lb 0] h fun w h' => w = .int .i64 (ucmp (getS L u).seq (getS L v).seq) ∧ Ext h h' := by
  obtain ⟨b, o, _, _, ea, d, _, _⟩ := s.at_ hu.1 hu.2
  obtain ⟨b', o', _, _, ea', d', _, _⟩ := s.at_ hv.1 hv.2
  rw [ea] at ea'; cases ea'
  refine f45_sh _ _ _ _ _ _ ⟨_, _, _, by rw [hcell_row r]; rfl, b, o, ea, hu.1, hu.2, _, d, hv.1, hv.2, _, d', _, fun h1 _ => cmpU_c _ _ h1, rfl, Ext.refl _⟩
theorem order_c (s : Shs h a c L) (hl : L.length * 32 ≤ 140737488351232) : HC Try.prog 25 #[.slice a L.length c] h fun v h' => Ext h h' ∧ ∃ Lo a' c', v = .slice a' Lo.length c' ∧ IsOrd L Lo ∧ Sl Stb.eI h' a' c' Lo ∧ Own Stb.eI.k tI h.size h' a' c' := by
  refine f25_sh _ _ _ _ _ fun lb h1 elb e1 => ?_
  have x1 : Ext h h1 := by rw [e1]; exact Ext.push _ _
  have r1 : h1[lb]? = some (.cells #[.slice a L.length c] 22 (0, 0)) := by rw [e1]; exact push_new elb
  have zs1 : h1.size = h.size + 1 := by rw [e1]; simp
  refine ⟨_, _, _, by rw [hcell_row r1]; rfl, fun a n c v h2 => ∃ k : Nat, v = k ∧ k ≤ L.length ∧ n = (ints k).length ∧ Ext h1 h2 ∧ Sl Stb.eI h2 a c (ints k) ∧ Own Stb.eI.k tI h1.size h2 a c, fun _ _ _ v _ => L.length - v.toNat, ⟨0, rfl, Nat.zero_le _, rfl, Ext.refl _, Sl.nil _ _, Own.nil _ _ _ _⟩, ?_⟩
  rintro a2 _ c2 _ h2 ⟨k, rfl, hk, rfl, x2, s2, w2⟩
  refine ⟨fun e nb h3 en e3 => ?_, fun e => ?_⟩
  · have hlt := lt_of_dec e
    have hil := ints_len k
    refine app_one (x := (k : Int)) aI en e3 rfl x2 s2 w2 rfl (by omega) fun a' c' h4 x4 f4 s4 w4 _ => ⟨a', _, c', rfl, ?_⟩
    rw [wadd k (by omega)]
    rw [← ints_succ] at s4
    exact ⟨⟨k + 1, rfl, hlt, by rw [ints_len, ints_len], x4, s4, w4⟩, by simp only [Int.toNat_natCast]; omega⟩
  · have hkn : k = L.length := by have := ge_of_dec e; omega
    subst hkn
    have r2 := x2.row r1
    have na : ∀ {q}, q < h1.size → ¬ blkA a2 q := fun hq hb => by have := (w2.low hb).1; omega
    have low : ∀ {h3 : Heap}, Fr (blkA a2) h2 h3 → Ext h h3 := fun f3 => (((x1.trans x2).fr _).trans f3 fun _ _ q => q).ext fun i hi q => na (by omega) q
    have C : Stb.Cmp Try.prog h2 a2 (.func (.func 45) #[] #[ptr lb 0]) (fun i j => ucmp (getS L i).seq (getS L j).seq) (fun i => 0 ≤ i ∧ i < L.length) := by
      refine ⟨fun h3 f3 u v hu hv => .inl ⟨45, [], [ptr lb 0], rfl, cbO, ?_⟩, fun x y z _ _ _ h1 h2 => ?_, fun x y _ _ h1 h2 => ?_, fun x y z _ _ _ h1 h2 h3 => ?_⟩
      · exact less_m (s.ext (low f3)) (f3.row r2 (na (by omega))) hu hv
      · simp only [ucmp_lt] at *; omega
      · simp only [ucmp_lt] at *; omega
      · simp only [ucmp_lt] at *; omega
    have hso := Stb.sort_stable C (L := ints L.length) s2 w2 (fun x hx => ints_mem.1 hx) (by rw [ints_len]; omega)
    refine hso.mono ?_
    rintro _ h5 ⟨rfl, f5, M, hp, hup, s5, w5⟩
    have hMl : (M.map Prod.fst).length = L.length := by rw [List.length_map, hp.length_eq, Stb.lbl_len, ints_len]
    refine ⟨rfl, low f5, M.map Prod.fst, a2, c2, by rw [hMl, ints_len], ⟨?_, ?_⟩, s5, w5.down (by omega)⟩
    · have := hp.map Prod.fst
      rw [Stb.lbl_fst] at this; exact this
    · rw [List.pairwise_map]
      refine hup.imp fun {x y} hxy => ?_
      rcases hxy.1 with q | ⟨q1, q2⟩
      · have := ucmp_lt.1 q; omega
      · have : ¬ (getS L y.1).seq < (getS L x.1).seq := fun z => q1 (ucmp_lt.2 z)
        omega
end
end Cy
end Go.Proofs.Ytcdpapdefdnknaa
namespace Go.Proofs.Ytcdpapdefdnknaa
namespace Cy
open Go
instance (r : Rc) : Decidable (recOk r) := by unfold recOk; infer_instance
theorem right_b (k : Int) (v : ByteArray) : ((k != 1) && ((k != 2) || (!decide (v = ByteArray.empty)))) = !decide (k = 1 ∨ (k = 2 ∧ v = ByteArray.empty)) := by
  by_cases h1 : k = 1
  · simp [h1]
  · by_cases h2 : k = 2
    · simp [h2]
    · simp [h1, h2]
theorem right_m (r : Rc) (h : Heap) : HC Try.prog 26 #[.agg #[.int .i64 r.kind, .int .u64 r.ver, .string r.key, .string r.val]] h fun v h' => v = .bool (decide (recOk r)) ∧ Ext h h' := by
  refine f26_sh _ _ _ _ _ _ ?_
  rw [right_b]
  refine ⟨fun e h1 x1 => ⟨?_, x1⟩, fun e h1 x1 => ⟨?_, x1⟩⟩
  · have : ¬ recOk r := fun q => by simp only [Bool.not_eq_true', decide_eq_false_iff_not] at e; exact e q.1
    rw [decide_eq_false this]
  · simp only [Bool.not_eq_false', decide_eq_true_eq] at e
    congr 1
    rw [← Bool.decide_and, decide_eq_decide]
    unfold recOk
    constructor
    · rintro ⟨h1, h2⟩; exact ⟨e, by omega, by omega⟩
    · rintro ⟨_, h1, h2⟩; exact ⟨by omega, by omega⟩
theorem mxv_none {X : List Rc} {k : ByteArray} (h : ¬ hasK X k) : mxv X k = 0 := by
  have : (∀ r ∈ X, r.key ≠ k) → mxv X k = 0 := by
    refine snoc_ind (p := fun l => (∀ r ∈ l, r.key ≠ k) → mxv l k = 0) (fun _ => rfl) (fun m y ih h => ?_) X
    rw [mxv_snoc, if_neg (h y (by simp))]; exact ih fun r hr => h r (List.mem_append_left _ hr)
  exact this fun r hr e => h ⟨r, hr, e⟩
abbrev seenV (m : Int) : Value := .agg #[.int .u64 m, .int .i64 1]
theorem max_if (a b : Int) : (if b > a then b else a) = max a b := by
  by_cases h : b > a
  · rw [if_pos h]; omega
  · rw [if_neg h]; omega
theorem sl_get {α : Type} {L : List α} {k : Nat} (h : k < L.length) : L[k]? = some L[k] := List.getElem?_eq_getElem h
structure Okp (L : List Sf) (Lo : List Int) (PRE : List Rc) (k : Nat) : Prop where
  up : (Lo.take k).Pairwise fun i j => (getS L i).seq < (getS L j).seq
  nz : ∀ i ∈ Lo.take k, (getS L i).seq ≠ 0
  ok : ∀ r ∈ PRE, recOk r
  pw : PRE.Pairwise Rr
theorem pre_good {L : List Sf} {Lo : List Int} (a : IsOrd L Lo) (g : Good L) {PRE POST : List Rc} (e : recsIn L Lo = PRE ++ POST) : PRE.Pairwise Rr ∧ ∀ r ∈ PRE, recOk r := by
  have h1 := g.flat a
  rw [e] at h1
  refine ⟨(List.pairwise_append.1 h1).1, fun r hr => ?_⟩
  have : r ∈ allR L := (recsIn_mem a).1 (by rw [e]; exact List.mem_append_left _ hr)
  obtain ⟨S, hS, hr⟩ := mem_allR.1 this
  exact g.ok S hS r hr
theorem recsIn_split {L : List Sf} {Lo : List Int} {k : Nat} (hk : k < Lo.length) (j : Nat) : ∃ POST, recsIn L Lo = (recsIn L (Lo.take k) ++ (getS L Lo[k]).recs.take j) ++ POST := by
  refine ⟨(getS L Lo[k]).recs.drop j ++ recsIn L (Lo.drop (k + 1)), ?_⟩
  have e : recsIn L Lo = recsIn L (Lo.take (k + 1)) ++ recsIn L (Lo.drop (k + 1)) := by
    unfold recsIn
    rw [← List.flatMap_append, List.take_append_drop]
  rw [e, recsIn_take hk, List.append_assoc, List.append_assoc, ← List.append_assoc (List.take j _), List.take_append_drop]
theorem kput_len {κ : Type} [DecidableEq κ] : ∀ (l : List (κ × Value)) (a : κ) (v : Value), (kput l a v).length ≤ l.length + 1
  | [], _, _ => by simp [kput]
  | (b, u) :: t, a, v => by
    unfold kput
    split
    · simp
    · have := kput_len t a v; simp; omega
section
variable {h : Heap} {a : Option Addr} {c : Nat} {L : List Sf}
set_option maxHeartbeats 6400000 in
theorem check_m (s : Shs h a c L) (hb : Bd L) (hw : Wf L) : HC Try.prog 10 #[.slice a L.length c] h fun v h' => v = .int .i64 (chk L) ∧ Ext h h' := by
  have hb1 := hb.len
  refine f10_sh _ _ _ _ _ fun mb h1 emb x1 zs1 m1 => (order_c (s.ext x1) hb1).mono ?_
  rintro _ h2 ⟨x2, Lo, oa, oc, rfl, hO, so, wo⟩
  have hLl := hO.len
  have x02 := x1.trans x2
  have z2 := x2.size
  let W : Heap → List Rc → Prop := fun hh rs => ∃ kv, MapL hh mb Value.string kv ∧ Mx seenV kv rs ∧ Fr (· = mb) h2 hh
  have low : ∀ {hh : Heap}, Fr (· = mb) h2 hh → Ext h hh := fun f => ((x02.fr _).trans f fun _ _ q => q).ext fun i hi q => by omega
  have bad : ∀ {hh : Heap}, Ext h hh → ¬ Good L → (Value.int .i64 170 = .int .i64 (chk L) ∧ Ext h hh) := fun x g => ⟨by rw [chk_no g], x⟩
  refine ⟨x2, oa, _, oc, rfl, fun v hh => ∃ k : Nat, v = k ∧ k ≤ Lo.length ∧ W hh (recsIn L (Lo.take k)) ∧ Okp L Lo (recsIn L (Lo.take k)) k, fun v _ => Lo.length - v.toNat, ⟨0, rfl, Nat.zero_le _, ⟨[], m1.ext x2, Mx.nil _, Fr.refl _ _⟩, ⟨List.Pairwise.nil, fun i hi => (by simp at hi), fun r hr => (by simp [recsIn] at hr), List.Pairwise.nil⟩⟩, ?_⟩
  rintro _ h3 ⟨k, rfl, hk, w3, ok3⟩
  refine ⟨fun e => ?_, fun e => ?_⟩
  rotate_left
  · have hke : k = Lo.length := by have := ge_of_dec e; omega
    subst hke
    obtain ⟨kv, m3, b3, f3⟩ := w3
    rw [List.take_length] at ok3
    obtain ⟨o1, o2, o3, o4⟩ := ok3
    rw [List.take_length] at o1 o2
    exact ⟨by rw [chk_yes (good_of hO o1 o2 o3 o4)], low f3⟩
  have hkl := lt_of_dec e
  obtain ⟨kv3, m3, b3, f3⟩ := w3
  have so3 := so.fr f3 fun b hb q => by have := (wo.low hb).1; omega
  obtain ⟨ob, oo, eo, d⟩ := so3.at (sl_get hkl)
  have hmem := hO.mem.1 (List.getElem_mem hkl)
  obtain ⟨lb, lo, ra, rc, el, c1, c2, sr⟩ := s.at_ hmem.1 hmem.2
  have hr1 := recsIn_take (L := L) hkl
  have hsp := fun j => recsIn_split (L := L) hkl j
  have hbr := hb.recs _ (getS_mem hmem.1 hmem.2)
  have hwr := hw.ver _ (getS_mem hmem.1 hmem.2)
  have strictG : ∀ (g : Good L) (i : Nat) (hi : i < k), (getS L (Lo[i]'(by omega))).seq < (getS L Lo[k]).seq := fun g i hi => by
    have := g.strict hO
    rw [List.pairwise_iff_getElem] at this
    exact this i k (by omega) hkl hi
  have upI : ∀ (i : Nat) (hi : i < k), (getS L (Lo[i]'(by omega))).seq ≤ (getS L Lo[k]).seq := fun i hi => by
    have := hO.up
    rw [List.pairwise_iff_getElem] at this
    exact this i k (by omega) hkl hi
  refine ⟨ob, oo, eo, by omega, by omega, _, d.1, decide ((getS L Lo[k]).seq = 0 ∨ ∃ (q : 0 < k), (getS L (Lo[k - 1]'(by omega))).seq = (getS L Lo[k]).seq), ⟨lb, lo, el, hmem.1, hmem.2, _, (low f3).cell c1, fun e1 => ?_, fun e1 => ⟨fun e2 => ?_, fun e2 => ?_⟩⟩, fun e1 => ?_, fun e1 => ?_⟩
  · rw [decide_eq_true]; exact .inl (eq_of_beq e1)
  · have hk0 := of_decide_eq_true e2
    have hk1 : k - 1 < Lo.length := by omega
    obtain ⟨ob', oo', eo', d'⟩ := so3.at (sl_get hk1)
    rw [eo] at eo'; cases eo'
    have hmem' := hO.mem.1 (List.getElem_mem hk1)
    obtain ⟨lb', lo', _, _, el', c1', _, _⟩ := s.at_ hmem'.1 hmem'.2
    rw [el] at el'; cases el'
    rw [wsub k (by omega) (by omega)]
    refine ⟨by omega, by omega, _, d'.1, hmem'.1, hmem'.2, _, (low f3).cell c1', ?_⟩
    have h0 : (getS L Lo[k]).seq ≠ 0 := by simpa using e1
    rw [Bool.eq_iff_iff]
    simp only [decide_eq_true_eq, beq_iff_eq]
    constructor
    · rintro (q | ⟨_, q⟩)
      · exact absurd q h0
      · exact q
    · intro q; exact .inr ⟨by omega, q⟩
  · have hk0 : ¬ 0 < k := by have := of_decide_eq_false e2; omega
    have h0 : (getS L Lo[k]).seq ≠ 0 := by simpa using e1
    rw [decide_eq_false]
    rintro (q | ⟨q, _⟩)
    · exact h0 q
    · exact hk0 q
  · refine bad (low f3) fun g => ?_
    rcases of_decide_eq_true e1 with q | ⟨q, q2⟩
    · exact g.nz _ (getS_mem hmem.1 hmem.2) q
    · have := strictG g (k - 1) (by omega); omega
  have hne := of_decide_eq_false e1
  have hstrict : ∀ x ∈ Lo.take k, (getS L x).seq < (getS L Lo[k]).seq := fun x hx => by
    obtain ⟨i, hi, rfl⟩ := List.getElem_of_mem hx
    rw [List.length_take] at hi
    rw [List.getElem_take]
    have hk1 : k - 1 < Lo.length := by omega
    have h1 : (getS L (Lo[k - 1]'hk1)).seq < (getS L Lo[k]).seq := by
      have := upI (k - 1) (by omega)
      have : ¬ (getS L (Lo[k - 1]'hk1)).seq = (getS L Lo[k]).seq := fun q => hne (.inr ⟨by omega, q⟩)
      omega
    have h2 : (getS L (Lo[i]'(by omega))).seq ≤ (getS L (Lo[k - 1]'hk1)).seq := by
      by_cases q : i = k - 1
      · subst q; exact Int.le_refl _
      · have := hO.up
        rw [List.pairwise_iff_getElem] at this
        exact this i (k - 1) (by omega) hk1 (by omega)
    omega
  have hnz : (getS L Lo[k]).seq ≠ 0 := fun q => hne (.inl q)
  have htake : Lo.take (k + 1) = Lo.take k ++ [Lo[k]] := by rw [List.take_add_one, sl_get hkl]; rfl
  generalize hPRE : recsIn L (Lo.take k) = PRE at *
  generalize hRs : (getS L Lo[k]).recs = Rs at *
  refine ⟨lb, lo, el, hmem.1, hmem.2, ra, Rs.length, rc, (low f3).cell c2, fun v hh => ∃ j : Nat, v = j ∧ j ≤ Rs.length ∧ W hh (PRE ++ Rs.take j) ∧ (∀ r ∈ PRE ++ Rs.take j, recOk r) ∧ (PRE ++ Rs.take j).Pairwise Rr, fun v _ => Rs.length - v.toNat, ⟨0, rfl, Nat.zero_le _, ⟨kv3, m3, by simpa using b3, f3⟩, by simpa using ok3.ok, by simpa using ok3.pw⟩, ?_⟩
  rintro _ h4 ⟨j, rfl, hj, ⟨kv4, m4, b4, f4⟩, okr, opw⟩
  refine ⟨fun e2 => ?_, fun e2 => ?_⟩
  rotate_left
  · have hjl : j = Rs.length := by have := ge_of_dec e2; omega
    subst hjl
    rw [List.take_length, ← hr1] at b4 okr opw
    rw [wadd k (by omega)]
    refine ⟨⟨k + 1, rfl, hkl, ⟨kv4, m4, b4, f4⟩, ⟨?_, fun i hi => ?_, okr, opw⟩⟩, by show Lo.length - Int.toNat _ < Lo.length - Int.toNat _; omega⟩
    · rw [htake, List.pairwise_append]
      exact ⟨ok3.up, List.pairwise_singleton _ _, fun x hx y hy => by rw [List.mem_singleton.1 hy]; exact hstrict x hx⟩
    · rw [htake] at hi
      rcases List.mem_append.1 hi with q | q
      · exact ok3.nz i q
      · rw [List.mem_singleton.1 q]; exact hnz
  have hjl := lt_of_dec e2
  have hsr : Sl eRc h4 ra rc Rs := sr.ext (low f4)
  have hget := sl_get hjl
  have htk : PRE ++ Rs.take (j + 1) = (PRE ++ Rs.take j) ++ [Rs[j]] := by rw [List.take_add_one, hget, List.append_assoc]; rfl
  have hwf := hwr Rs[j] (List.getElem_mem hjl)
  obtain ⟨POST, hPOST⟩ := hsp (j + 1)
  rw [htk] at hPOST
  generalize Rs[j] = f at *
  generalize PRE ++ Rs.take j = Q at *
  have hbad : (¬ recOk f ∨ (f.kind = 1 ∧ hasK Q f.key ∧ f.ver ≤ mxv Q f.key)) → (∀ r ∈ Q, 0 ≤ r.ver) → ¬ Good L := fun hq hQ g => by
    obtain ⟨p1, p2⟩ := pre_good hO g hPOST
    rcases hq with q | ⟨q1, q2, q3⟩
    · exact q (p2 f (by simp))
    · obtain ⟨o, ho, ok_, ov⟩ := mxv_at hQ q2
      have := (List.pairwise_append.1 p1).2.2 o ho f (by simp) q1 ok_
      omega
  have hQ0 : ∀ r ∈ Q, 0 ≤ r.ver := fun r hr => by
    have : r ∈ allR L := (recsIn_mem hO).1 (by rw [hPOST]; simp [hr])
    obtain ⟨S, hS, hr⟩ := mem_allR.1 this
    exact (hw.ver S hS r hr).1
  obtain ⟨fb, fo', ef, df⟩ := hsr.at hget
  have hlk := b4 f.key
  have hval : ∃ xs : Int, (lk kv4 f.key).getD (.agg #[.int .u64 0, .int .i64 0]) = .agg #[.int .u64 (mxv Q f.key), .int .i64 xs] ∧ (0 < xs ↔ hasK Q f.key) := by
    by_cases hh : hasK Q f.key
    · exact ⟨1, by rw [hlk.1 hh]; rfl, fun _ => hh, fun _ => by decide⟩
    · exact ⟨0, by rw [hlk.2 hh, mxv_none hh]; rfl, fun q => absurd q (by decide), fun q => absurd q hh⟩
  obtain ⟨xs, hv, hxs⟩ := hval
  refine ⟨fb, fo', ef, by omega, by omega, _, _, _, _, df.1, df.2.1, df.2.2.1, df.2.2.2.1, kv4, m4, _, xs, hv, fun b hh => Ext h4 hh ∧ (b = true → ¬ Good L) ∧ (b = false → recOk f ∧ (f.kind = 1 → hasK Q f.key → mxv Q f.key < f.ver)), fun r1 was h8 _ _ _ _ x8 => (right_m f h8).mono ?_, ?_⟩
  · rintro _ h10 ⟨rfl, x10⟩
    have x410 := x8.trans x10
    refine ⟨x10, _, rfl, fun e3 => ⟨x410, fun _ => hbad (.inl (by simpa using e3)) hQ0, fun e => (by cases e)⟩, fun e3 => ?_⟩
    have hok : recOk f := by simpa using e3
    refine ⟨fun e4 => ⟨fun e5 => ⟨x410, fun q => ?_, fun q => ?_⟩, fun e5 => ⟨x410, fun q => (by cases q), fun _ => ⟨hok, fun _ hh => ?_⟩⟩⟩, fun e4 => ⟨x410, fun q => (by cases q), fun _ => ⟨hok, fun q => ?_⟩⟩⟩
    · exact hbad (.inr ⟨eq_of_beq e4, hxs.1 (of_decide_eq_true e5), of_decide_eq_true q⟩) hQ0
    · exact ⟨hok, fun _ _ => by have := of_decide_eq_false q; omega⟩
    · exact absurd (hxs.2 hh) (of_decide_eq_false e5)
    · rw [q] at e4; simp at e4
  · rintro b h10 ⟨x10, hb1', hb2⟩
    refine fun _ _ _ _ _ _ => ⟨fun e3 => bad ((low f4).trans x10) (hb1' e3), fun e3 => ?_⟩
    obtain ⟨hok, hlt⟩ := hb2 e3
    refine ⟨kv4, m4.ext x10, fun h9 o9 m9 => ?_⟩
    rw [max_if] at m9
    rw [wadd j (by omega)]
    refine ⟨⟨j + 1, rfl, hjl, ⟨_, m9, ?_, (f4.trans (x10.fr _) fun _ _ q => q).trans o9.fr fun _ _ q => q⟩, ?_, ?_⟩, by show Rs.length - Int.toNat _ < Rs.length - Int.toNat _; omega⟩
    · rw [htk]; exact b4.put
    · rw [htk]
      intro r hr
      rcases List.mem_append.1 hr with q | q
      · exact okr r q
      · rw [List.mem_singleton.1 q]; exact hok
    · rw [htk, List.pairwise_append]
      refine ⟨opw, List.pairwise_singleton _ _, fun o ho y hy => ?_⟩
      rw [List.mem_singleton.1 hy]
      intro hk1 hkk
      have := hlt hk1 ⟨o, ho, hkk⟩
      have := mxv_le ho hkk
      omega
set_option maxHeartbeats 6400000 in
theorem newest_m (s : Shs h a c L) (hb : Bd L) : HC Try.prog 47 #[.slice a L.length c] h fun v h' => Ext h h' ∧ ∃ mb Lo kv, v = .map (some mb) ∧ h.size ≤ mb ∧ IsOrd L Lo ∧ MapL h' mb Value.string kv ∧ Both kv (liveL (recsIn L Lo)) ∧ kv.length ≤ (recsIn L Lo).length := by
  have hb1 := hb.len
  refine f47_sh _ _ _ _ _ fun mb h1 emb x1 zs1 m1 => (order_c (s.ext x1) hb1).mono ?_
  rintro _ h2 ⟨x2, Lo, oa, oc, rfl, hO, so, wo⟩
  have hLl := hO.len
  have x02 := x1.trans x2
  have z2 := x2.size
  let W : Heap → List Rc → Prop := fun hh rs => ∃ kv, MapL hh mb Value.string kv ∧ Both kv (liveL rs) ∧ kv.length ≤ rs.length ∧ Fr (· = mb) h2 hh
  have low : ∀ {hh : Heap}, Fr (· = mb) h2 hh → Ext h hh := fun f => ((x02.fr _).trans f fun _ _ q => q).ext fun i hi q => by omega
  refine ⟨x2, oa, _, oc, rfl, fun v hh => ∃ k : Nat, v = k ∧ k ≤ Lo.length ∧ W hh (recsIn L (Lo.take k)), fun v _ => Lo.length - v.toNat, ⟨0, rfl, Nat.zero_le _, [], m1.ext x2, Both.nil, Nat.zero_le _, Fr.refl _ _⟩, ?_⟩
  rintro _ h3 ⟨k, rfl, hk, w3⟩
  refine ⟨fun e => ?_, fun e => ?_⟩
  rotate_left
  · have hke : k = Lo.length := by have := ge_of_dec e; omega
    subst hke
    rw [List.take_length] at w3
    obtain ⟨kv, m3, b3, n3, f3⟩ := w3
    exact ⟨low f3, mb, Lo, kv, rfl, by omega, hO, m3, b3, n3⟩
  have hkl := lt_of_dec e
  obtain ⟨kv3, m3, b3, n3, f3⟩ := w3
  have so3 := so.fr f3 fun b hb q => by have := (wo.low hb).1; omega
  obtain ⟨ob, oo, eo, d⟩ := so3.at (sl_get hkl)
  have hmem := hO.mem.1 (List.getElem_mem hkl)
  obtain ⟨lb, lo, ra, rc, el, c1, c2, sr⟩ := s.at_ hmem.1 hmem.2
  have hr1 := recsIn_take (L := L) hkl
  have hbr := hb.recs _ (getS_mem hmem.1 hmem.2)
  generalize hPRE : recsIn L (Lo.take k) = PRE at *
  generalize hRs : (getS L Lo[k]).recs = Rs at *
  refine ⟨ob, oo, eo, by omega, by omega, _, d.1, lb, lo, el, hmem.1, hmem.2, ra, Rs.length, rc, (low f3).cell c2, fun v hh => ∃ j : Nat, v = j ∧ j ≤ Rs.length ∧ W hh (PRE ++ Rs.take j), fun v _ => Rs.length - v.toNat, ⟨0, rfl, Nat.zero_le _, kv3, m3, by simpa using b3, by simpa using n3, f3⟩, ?_⟩
  rintro _ h4 ⟨j, rfl, hj, kv4, m4, b4, n4, f4⟩
  refine ⟨fun e2 => ?_, fun e2 => ?_⟩
  rotate_left
  · have hjl : j = Rs.length := by have := ge_of_dec e2; omega
    subst hjl
    rw [List.take_length, ← hr1] at b4 n4
    rw [wadd k (by omega)]
    exact ⟨⟨k + 1, rfl, hkl, kv4, m4, b4, n4, f4⟩, by show Lo.length - Int.toNat _ < Lo.length - Int.toNat _; omega⟩
  have hjl := lt_of_dec e2
  have hsr : Sl eRc h4 ra rc Rs := sr.ext (low f4)
  have hget := sl_get hjl
  have htk : PRE ++ Rs.take (j + 1) = (PRE ++ Rs.take j) ++ [Rs[j]] := by rw [List.take_add_one, hget, List.append_assoc]; rfl
  obtain ⟨fb, fo', ef, df⟩ := hsr.at hget
  generalize Rs[j] = f at *
  have hlen : (PRE ++ Rs.take (j + 1)).length = (PRE ++ Rs.take j).length + 1 := by rw [htk, List.length_append]; rfl
  have hsrt := live_sorted (PRE ++ Rs.take j)
  refine ⟨fun h5 => W h5 (PRE ++ Rs.take (j + 1)), ⟨fb, fo', ef, by omega, by omega, _, _, _, _, df.1, df.2.1, df.2.2.1, df.2.2.2.1, kv4, m4, ?_⟩, fun h5 w5 => ?_⟩
  · have hb := b4 f.key
    have put : ∀ {h9 h10 : Heap}, (∀ x, fnd (liveL (PRE ++ Rs.take j)) f.key = some x → f.ver ≥ x.ver) → Ext h4 h9 → Only mb h9 h10 → MapL h10 mb Value.string (kput kv4 f.key (foV f)) → W h10 (PRE ++ Rs.take (j + 1)) := fun hv x9 o10 m10 =>
      ⟨_, m10, by rw [htk, live_app]; exact b4.put hsrt hv, by have : (kput kv4 f.key (foV f)).length ≤ kv4.length + 1 := kput_len kv4 f.key (foV f); omega, (f4.trans (x9.fr _) fun _ _ q => q).trans o10.fr fun _ _ q => q⟩
    cases hq : fnd (liveL (PRE ++ Rs.take j)) f.key with
    | none =>
      rw [hq] at hb
      refine ⟨0, 0, ByteArray.empty, ByteArray.empty, by rw [hb]; rfl, fun _ h9 x9 => ⟨kv4, m4.ext x9, fun h10 o10 m10 => put (fun x q => by rw [hq] at q; cases q) x9 o10 m10⟩, fun e3 => ?_⟩
      rw [hb] at e3; simp at e3
    | some x =>
      rw [hq] at hb
      refine ⟨x.kind, x.ver, x.key, x.val, by rw [hb]; rfl, fun e3 h9 x9 => ⟨kv4, m4.ext x9, fun h10 o10 m10 => put (fun y q => ?_) x9 o10 m10⟩, fun e3 h9 x9 => ⟨kv4, m4.ext x9, ?_, by omega, f4.trans (x9.fr _) fun _ _ q => q⟩⟩
      · rw [hq] at q; cases q
        rw [hb] at e3; simpa using e3
      · rw [htk, live_app]
        refine b4.keep hsrt hq ?_
        rw [hb] at e3; simpa using e3
  · rw [wadd j (by omega)]
    exact ⟨⟨j + 1, rfl, hjl, w5⟩, by show Rs.length - Int.toNat _ < Rs.length - Int.toNat _; omega⟩
end
end Cy
end Go.Proofs.Ytcdpapdefdnknaa
namespace Go.Proofs.Ytcdpapdefdnknaa
namespace Cy
open Go
def MayP (L : List Sf) (i j : Nat) (r : Rc) : Prop := recOk r ∧ (r.kind = 1 → ∀ (a b : Nat) (o : Rc), a < L.length → (getS L a).recs[b]? = some o → ((getS L a).seq < (getS L i).seq ∨ (a = i ∧ b < j)) → o.key = r.key → o.ver < r.ver)
theorem good_may {L : List Sf} (g : Good L) {i j : Nat} {r : Rc} (hi : i < L.length) (hj : (getS L i).recs[j]? = some r) : MayP L i j r := by
  have hS := getS_mem (L := L) (i := i) (by omega) (by omega)
  refine ⟨g.ok _ hS r (List.mem_of_getElem? hj), fun hk a b o ha hb hab hok => ?_⟩
  have hT := getS_mem (L := L) (i := a) (by omega) (by omega)
  rcases hab with q | ⟨rfl, q⟩
  · exact g.out _ hT _ hS q o (List.mem_of_getElem? hb) r (List.mem_of_getElem? hj) hk hok
  · have := g.inn _ hS
    rw [List.pairwise_iff_getElem] at this
    obtain ⟨h1, rfl⟩ := List.getElem?_eq_some_iff.1 hb
    obtain ⟨h2, rfl⟩ := List.getElem?_eq_some_iff.1 hj
    exact this b j h1 h2 q hk hok
theorem may_good {L : List Sf} (h1 : ∀ i : Nat, i < L.length → (getS L i).seq ≠ 0) (h2 : ∀ i k : Nat, i < L.length → k < i → (getS L k).seq ≠ (getS L i).seq) (h3 : ∀ (i j : Nat) r, i < L.length → (getS L i).recs[j]? = some r → MayP L i j r) : Good L := by
  have pick : ∀ S ∈ L, ∃ i : Nat, i < L.length ∧ getS L i = S := fun S hS => by
    obtain ⟨i, q0, q1, e⟩ := mem_getS hS
    exact ⟨i.toNat, by omega, by rw [← e]; congr 1; omega⟩
  have hg : ∀ (i : Nat) (hi : i < L.length), getS L i = L[i] := fun i hi => by
    have := getS_get (L := L) (i := i) (by omega) (by omega)
    rw [Int.toNat_natCast, List.getElem?_eq_getElem hi] at this
    exact (Option.some.inj this).symm
  refine ⟨fun S hS => ?_, ?_, fun S hS r hr => ?_, fun S hS => ?_, fun S hS T hT hlt x hx y hy => ?_⟩
  · obtain ⟨i, hi, rfl⟩ := pick S hS
    exact h1 i hi
  · rw [List.Nodup, List.pairwise_map, List.pairwise_iff_getElem]
    intro k i hk hi hki
    have := h2 i k hi hki
    rw [hg i hi, hg k hk] at this; exact this
  · obtain ⟨i, hi, rfl⟩ := pick S hS
    obtain ⟨j, hj⟩ := List.mem_iff_getElem?.1 hr
    exact (h3 i j r hi hj).1
  · obtain ⟨i, hi, rfl⟩ := pick S hS
    rw [List.pairwise_iff_getElem]
    intro b j hb hj hbj hk hok
    exact (h3 i j _ hi (List.getElem?_eq_getElem hj)).2 hk i b _ hi (List.getElem?_eq_getElem hb) (.inr ⟨rfl, hbj⟩) hok
  · obtain ⟨a, ha, rfl⟩ := pick S hS
    obtain ⟨i, hi, rfl⟩ := pick T hT
    obtain ⟨b, hb⟩ := List.mem_iff_getElem?.1 hx
    obtain ⟨j, hj⟩ := List.mem_iff_getElem?.1 hy
    exact fun hk hok => (h3 i j _ hi hj).2 hk a b _ ha hb (.inl hlt) hok
theorem right_r (k : Int) (n : Nat) (v : ByteArray) : (bif k != 1 then (k != 2) || ((decide ((n : Int) < 1)) || ((decide ((n : Int) > 255)) || ((k == 2) && (!decide (v = ByteArray.empty))))) else (decide ((n : Int) < 1)) || ((decide ((n : Int) > 255)) || ((k == 2) && (!decide (v = ByteArray.empty))))) = !decide ((k = 1 ∨ (k = 2 ∧ v = ByteArray.empty)) ∧ 1 ≤ n ∧ n ≤ 255) := by
  have e1 : decide ((n : Int) < 1) = !decide (1 ≤ n) := by
    have : ((n : Int) < 1) ↔ ¬ (1 ≤ n) := by omega
    rw [decide_eq_decide.2 this, decide_not]
  have e2 : decide ((n : Int) > 255) = !decide (n ≤ 255) := by
    have : ((n : Int) > 255) ↔ ¬ (n ≤ 255) := by omega
    rw [decide_eq_decide.2 this, decide_not]
  rw [e1, e2]
  by_cases h1 : k = 1
  · subst h1
    by_cases h3 : 1 ≤ n <;> by_cases h4 : n ≤ 255 <;> simp [h3, h4]
  · by_cases h2 : k = 2
    · subst h2
      by_cases h3 : 1 ≤ n <;> by_cases h4 : n ≤ 255 <;> simp [h3, h4]
    · simp [h1, h2]
section
variable {h : Heap} {a : Option Addr} {c : Nat} {L : List Sf}
set_option maxHeartbeats 1600000 in
theorem may_c (s : Shs h a c L) (hb : Bd L) {i j : Nat} {r : Rc} (hi : i < L.length) (hj : (getS L i).recs[j]? = some r) : HC Try.prog 27 #[.slice a L.length c, .int .i64 i, .int .i64 j] h fun v h' => Ext h h' ∧ ∃ q : Bool, v = .bool q ∧ (q = true ↔ MayP L i j r) := by
  have hb1 := hb.len
  obtain ⟨lb, lo, ra, rc, el, c1, c2, sr⟩ := s.at_ (i := i) (by omega) (by omega)
  have hbi := hb.recs _ (getS_mem (L := L) (i := i) (by omega) (by omega))
  obtain ⟨rb, ro, er, d⟩ := sr.at hj
  have hjl := (List.getElem?_eq_some_iff.1 hj).1
  refine f27_sh _ _ _ _ _ _ _ ⟨lb, lo, el, by omega, by omega, ra, _, rc, c2, rb, ro, er, by omega, by omega, _, _, _, _, d.1, d.2.1, d.2.2.1, d.2.2.2.1, ?_⟩
  rw [right_r]
  have yes : (!decide ((r.kind = 1 ∨ (r.kind = 2 ∧ r.val = ByteArray.empty)) ∧ 1 ≤ r.key.size ∧ r.key.size ≤ 255)) = false → recOk r := fun e => by
    rw [Bool.not_eq_false', decide_eq_true_eq] at e; exact e
  refine ⟨fun e h2 x2 => ⟨x2, false, rfl, fun q => (by cases q), fun q => ?_⟩, fun e => ⟨fun e2 h2 x2 => ⟨x2, true, rfl, fun _ => ⟨yes e, fun hk => ?_⟩, fun _ => rfl⟩, fun e2 => ?_⟩⟩
  · simp only [Bool.not_eq_true', decide_eq_false_iff_not] at e; exact absurd q.1 e
  · have : r.kind = 2 := eq_of_beq e2
    omega
  have hok : recOk r := yes e
  have hk1 : r.kind = 1 := hok.1.elim id fun q => by rw [q.1] at e2; simp at e2
  refine ⟨fun v => ∃ x : Nat, v = x ∧ x ≤ L.length ∧ ∀ (a b : Nat) (o : Rc), a < x → (getS L a).recs[b]? = some o → ((getS L a).seq < (getS L i).seq ∨ (a = i ∧ b < j)) → o.key = r.key → o.ver < r.ver, fun v => L.length - v.toNat, ⟨0, rfl, Nat.zero_le _, fun a b o q => by omega⟩, ?_⟩
  rintro _ ⟨x, rfl, hx, hI⟩
  refine ⟨fun e3 => ?_, fun e3 h3 x3 => ⟨x3, true, rfl, fun _ => ⟨hok, fun _ a b o ha => hI a b o (by have := ge_of_dec e3; omega)⟩, fun _ => rfl⟩⟩
  have hxl := lt_of_dec e3
  obtain ⟨lb', lo', xa, xc, el', c1', c2', sx⟩ := s.at_ (i := x) (by omega) (by omega)
  rw [el] at el'; cases el'
  have hbx := hb.recs _ (getS_mem (L := L) (i := x) (by omega) (by omega))
  refine ⟨fun v => ∃ y : Nat, v = y ∧ y ≤ (getS L x).recs.length ∧ ∀ (b : Nat) (o : Rc), b < y → (getS L x).recs[b]? = some o → ((getS L x).seq < (getS L i).seq ∨ (x = i ∧ b < j)) → o.key = r.key → o.ver < r.ver, fun v => (getS L x).recs.length - v.toNat, ⟨0, rfl, Nat.zero_le _, fun b o q => by omega⟩, ?_⟩
  rintro _ ⟨y, rfl, hy, hJ⟩
  refine ⟨by omega, by omega, xa, _, xc, c2', fun e4 => ?_, fun e4 => ?_⟩
  · have hyl := lt_of_dec e4
    obtain ⟨yb, yo, ey, dy⟩ := sx.at (sl_get hyl)
    have hgy := sl_get hyl
    generalize (getS L x).recs[y] = o at *
    refine ⟨decide ((getS L x).seq < (getS L i).seq ∨ (x = i ∧ y < j)), ⟨_, c1', by omega, by omega, _, c1, fun e5 => ?_, fun e5 => ⟨fun e6 => ?_, fun e6 => ?_⟩⟩, yb, yo, ey, by omega, by omega, _, _, _, _, dy.1, dy.2.1, dy.2.2.1, dy.2.2.2.1, fun e5 h6 x6 => ⟨x6, false, rfl, fun q => (by cases q), fun q => ?_⟩, fun e5 => ?_⟩
    · rw [decide_eq_true]; exact .inl (of_decide_eq_true e5)
    · have exi : x = i := by have := eq_of_beq e6; omega
      subst exi
      rw [decide_eq_decide]
      constructor
      · rintro (q | q); · omega
        omega
      · intro q; exact .inr ⟨rfl, by omega⟩
    · have exi : x ≠ i := fun q => by rw [q] at e6; simp at e6
      rw [decide_eq_false]
      rintro (q | q)
      · exact absurd q (of_decide_eq_false e5)
      · exact exi q.1
    · exfalso
      simp only [Bool.and_eq_true, decide_eq_true_eq] at e5
      have := q.2 hk1 x y o hxl hgy e5.1 e5.2.1
      omega
    · rw [wadd y (by omega)]
      refine ⟨⟨y + 1, rfl, hyl, fun b o' hb' ho' hab hok' => ?_⟩, by show _ - Int.toNat _ < _ - Int.toNat _; omega⟩
      by_cases eb : b = y
      · subst eb
        rw [hgy] at ho'; cases ho'
        simp only [Bool.and_eq_false_imp, decide_eq_true_eq, decide_eq_false_iff_not] at e5
        have := e5 hab hok'
        omega
      · exact hJ b o' (by omega) ho' hab hok'
  · have hye : y = (getS L x).recs.length := by have := ge_of_dec e4; omega
    rw [wadd x (by omega)]
    refine ⟨⟨x + 1, rfl, hxl, fun a' b o ha hb' hab hok' => ?_⟩, by show L.length - Int.toNat _ < L.length - Int.toNat _; omega⟩
    by_cases ea : a' = x
    · subst ea
      exact hJ b o (by have := (List.getElem?_eq_some_iff.1 hb').1; omega) hb' hab hok'
    · exact hI a' b o (by omega) hb' hab hok'
set_option maxHeartbeats 1600000 in
theorem check_r (s : Shs h a c L) (hb : Bd L) : HC Try.prog 11 #[.slice a L.length c] h fun v h' => v = .int .i64 (chk L) ∧ Ext h h' := by
  have hb1 := hb.len
  have bad : ∀ {hh : Heap}, Ext h hh → ¬ Good L → (Value.int .i64 170 = .int .i64 (chk L) ∧ Ext h hh) := fun x g => ⟨by rw [chk_no g], x⟩
  refine f11_sh _ _ _ _ _ ⟨fun v hh => ∃ x : Nat, v = x ∧ x ≤ L.length ∧ Ext h hh ∧ (∀ i : Nat, i < x → (getS L i).seq ≠ 0) ∧ (∀ i k : Nat, i < x → k < i → (getS L k).seq ≠ (getS L i).seq) ∧ (∀ (i j : Nat) r, i < x → (getS L i).recs[j]? = some r → MayP L i j r), fun v _ => L.length - v.toNat, ⟨0, rfl, Nat.zero_le _, Ext.refl _, fun i q => by omega, fun i k q => by omega, fun i j r q => by omega⟩, ?_⟩
  rintro _ h1 ⟨x, rfl, hx, x1, i1, i2, i3⟩
  refine ⟨fun e => ?_, fun e => ?_⟩
  rotate_left
  · have hxe : x = L.length := by have := ge_of_dec e; omega
    subst hxe
    exact ⟨by rw [chk_yes (may_good i1 i2 i3)], x1⟩
  have hxl := lt_of_dec e
  have s1 := s.ext x1
  obtain ⟨lb, lo, ra, rc, el, c1, c2, sr⟩ := s1.at_ (i := x) (by omega) (by omega)
  have hbx := hb.recs _ (getS_mem (L := L) (i := x) (by omega) (by omega))
  have hmx := getS_mem (L := L) (i := x) (by omega) (by omega)
  refine ⟨lb, lo, el, by omega, by omega, _, c1, fun e1 => bad x1 fun g => g.nz _ hmx (eq_of_beq e1), fun e1 => ⟨fun v => ∃ k : Nat, v = k ∧ k ≤ x ∧ ∀ q : Nat, q < k → (getS L q).seq ≠ (getS L x).seq, fun v => x - v.toNat, ⟨0, rfl, Nat.zero_le _, fun q hq => by omega⟩, ?_⟩⟩
  have hz : (getS L x).seq ≠ 0 := by simpa using e1
  rintro _ ⟨k, rfl, hk, hK⟩
  refine ⟨fun e2 => ?_, fun e2 => ?_⟩
  · have hkx := lt_of_dec e2
    obtain ⟨lb', lo', _, _, el', c1', _, _⟩ := s1.at_ (i := k) (by omega) (by omega)
    rw [el] at el'; cases el'
    refine ⟨by omega, by omega, _, c1', by omega, by omega, fun e3 => bad x1 fun g => ?_, fun e3 => ?_⟩
    · have hn := g.nd
      rw [List.Nodup, List.pairwise_map, List.pairwise_iff_getElem] at hn
      have q1 := getS_get (L := L) (i := k) (by omega) (by omega)
      have q2 := getS_get (L := L) (i := x) (by omega) (by omega)
      rw [Int.toNat_natCast] at q1 q2
      obtain ⟨p1, r1⟩ := List.getElem?_eq_some_iff.1 q1
      obtain ⟨p2, r2⟩ := List.getElem?_eq_some_iff.1 q2
      have := hn k x p1 p2 hkx
      rw [r1, r2] at this
      exact this (eq_of_beq e3)
    · rw [wadd k (by omega)]
      refine ⟨⟨k + 1, rfl, hkx, fun q hq => ?_⟩, by show x - Int.toNat _ < x - Int.toNat _; omega⟩
      by_cases eq_ : q = k
      · subst eq_; simpa using e3
      · exact hK q (by omega)
  · have hkx : k = x := by have := ge_of_dec e2; omega
    subst hkx
    refine ⟨fun v hh => ∃ j : Nat, v = j ∧ j ≤ (getS L k).recs.length ∧ Ext h1 hh ∧ ∀ (q : Nat) r, q < j → (getS L k).recs[q]? = some r → MayP L k q r, fun v _ => (getS L k).recs.length - v.toNat, ⟨0, rfl, Nat.zero_le _, Ext.refl _, fun q r hq => by omega⟩, ?_⟩
    rintro _ h2 ⟨j, rfl, hj, x2, hJ⟩
    refine ⟨by omega, by omega, ra, _, rc, x2.cell c2, fun e3 => ?_, fun e3 => ?_⟩
    · have hjl := lt_of_dec e3
      have hm := may_c (s1.ext x2) hb hxl (sl_get hjl)
      rw [el] at hm
      refine hm.mono ?_
      rintro _ h3 ⟨x3, q, rfl, hq⟩
      refine ⟨x3, q, rfl, fun e4 => bad (x1.trans (x2.trans x3)) fun g => ?_, fun e4 => ?_⟩
      · have := hq.2 (good_may g hxl (sl_get hjl))
        rw [this] at e4; cases e4
      · rw [wadd j (by omega)]
        refine ⟨⟨j + 1, rfl, hjl, x2.trans x3, fun p r hp hr => ?_⟩, by show _ - Int.toNat _ < _ - Int.toNat _; omega⟩
        by_cases ep : p = j
        · subst ep
          rw [sl_get hjl] at hr; cases hr
          exact hq.1 (by simpa using e4)
        · exact hJ p r (by omega) hr
    · have hje : j = (getS L k).recs.length := by have := ge_of_dec e3; omega
      rw [wadd k (by omega)]
      refine ⟨⟨k + 1, rfl, hxl, x1.trans x2, fun i hi => ?_, fun i q hi hq => ?_, fun i p r hi hr => ?_⟩, by show L.length - Int.toNat _ < L.length - Int.toNat _; omega⟩
      · by_cases ei : i = k
        · subst ei; exact hz
        · exact i1 i (by omega)
      · by_cases ei : i = k
        · subst ei; exact hK q hq
        · exact i2 i q (by omega) hq
      · by_cases ei : i = k
        · subst ei; exact hJ p r (by have := (List.getElem?_eq_some_iff.1 hr).1; omega) hr
        · exact i3 i p r (by omega) hr
end
end Cy
end Go.Proofs.Ytcdpapdefdnknaa
namespace Go.Proofs.Ytcdpapdefdnknaa
open Go
open Go.Proofs.Ytcdpapdefdnknaa renaming hl_val → lv, hl_step → lp, hl_nil → ln, hx_seq → xs, hx_region → xr, hx_cond → xc, hx_block → xb, hx_loopT → xl, hx_cut → xk, hx_has → xh, hx_skip → xi, hx_ret → xt, hx_exit → xe, seqQ_n → qn, seqQ_exit → qe, blockQ_n → bn, blockQ_here → bh, hv_move → vm, hv_assign → va, hv_arith → vr, hv_load → vl, hv_loads → vL, hv_field → vf, hv_build → vb, hv_index → vi, hp_pure → pp, hp_read → pr, has_cons → hc, has_nil → hn, hcells_cons → cc, hcells_nil → cn, hs_call → sc
set_option maxRecDepth 100000
set_option maxHeartbeats 4000000
theorem TyTD.agg111 : aggB Try.prog 111 = some true := by kernel_rfl
theorem TyTD.agg3 : aggB Try.prog 3 = some false := by kernel_rfl
theorem TyTD.agg31 : aggB Try.prog 31 = some false := by kernel_rfl
theorem TyTD.agg5 : aggB Try.prog 5 = some false := by kernel_rfl
theorem TyTD.cb50 : CallB Try.prog 50 := fun _ _ => Try.call50 _ _
theorem TyTD.cb52 : CallB Try.prog 52 := fun _ _ => Try.call52 _ _
theorem TyTD.cb62 : CallB Try.prog 62 := fun _ _ => Try.call62 _ _
theorem TyTD.cb63 : CallB Try.prog 63 := fun _ _ => Try.call63 _ _
theorem TyTD.cb64 : CallB Try.prog 64 := fun _ _ => Try.call64 _ _
theorem TyTD.cb66 : CallB Try.prog 66 := fun _ _ => Try.call66 _ _
theorem TyTD.cb67 : CallB Try.prog 67 := fun _ _ => Try.call67 _ _
theorem TyTD.cb68 : CallB Try.prog 68 := fun _ _ => Try.call68 _ _
theorem TyTD.cb74 : CallB Try.prog 74 := fun _ _ => Try.call74 _ _
theorem TyTD.cb75 : CallB Try.prog 75 := fun _ _ => Try.call75 _ _
theorem TyTD.cb76 : CallB Try.prog 76 := fun _ _ => Try.call76 _ _
theorem TyTD.cb77 : CallB Try.prog 77 := fun _ _ => Try.call77 _ _
theorem TyTD.cb78 : CallB Try.prog 78 := fun _ _ => Try.call78 _ _
theorem TyTD.ea111 : elA Try.prog 111 = some (4, 1) := by kernel_rfl
theorem TyTD.el53 : elB Try.prog 53 = some 1 := by kernel_rfl
theorem TyTD.fld123_0 : fldB Try.prog 123 0 = some 0 := by kernel_rfl
theorem TyTD.fld123_1 : fldB Try.prog 123 1 = some 1 := by kernel_rfl
theorem TyTD.fld123_2 : fldB Try.prog 123 2 = some 5 := by kernel_rfl
theorem TyTD.fld123_3 : fldB Try.prog 123 3 = some 37 := by kernel_rfl
theorem TyTD.fld123_4 : fldB Try.prog 123 4 = some 38 := by kernel_rfl
theorem TyTD.mixed : Try.prog.follows .mixedOrders = true := by kernel_rfl
theorem TyTD.pl123 : plB Try.prog 123 = some [(0, 1), (1, 4), (5, 32), (37, 1), (38, 1)] := by kernel_rfl
theorem TyTD.sz111 : szB Try.prog 111 = some 4 := by kernel_rfl
theorem TyTD.sz3 : szB Try.prog 3 = some 1 := by kernel_rfl
theorem TyTD.sz31 : szB Try.prog 31 = some 1 := by kernel_rfl
theorem TyTD.sz5 : szB Try.prog 5 = some 1 := by kernel_rfl
theorem TyTD.u111 : Try.prog.underlying 111 = some (.array 4 31) := by kernel_rfl
theorem TyTD.u121 : Try.prog.underlying 121 = some (.array 32 5) := by kernel_rfl
theorem TyTD.u137 : Try.prog.underlying 137 = some (.array 4 3) := by kernel_rfl
theorem TyTD.u3 : Try.prog.underlying 3 = some (.int .i64) := by kernel_rfl
theorem TyTD.u31 : Try.prog.underlying 31 = some (.int .u64) := by kernel_rfl
theorem TyTD.u5 : Try.prog.underlying 5 = some (.int .u8) := by kernel_rfl
theorem TyTD.u53 : Try.prog.underlying 53 = some (.slice 5) := by kernel_rfl
theorem TyTD.u9 : Try.prog.underlying 9 = some (.string) := by kernel_rfl
theorem TyTD.up107 : Try.prog.underlying 107 = some (.pointer 123) := by kernel_rfl
theorem TyTD.z111 : zeroB Try.prog 111 (.agg #[(.int .u64 0), (.int .u64 0), (.int .u64 0), (.int .u64 0)]) := by unfold zeroB; kernel_rfl
theorem TyTD.z123 : zeroB Try.prog 123 (.agg #[(.int .u64 0), (.int .u64 0), (.int .u64 0), (.int .u64 0), (.int .u64 0), (.int .u8 0), (.int .u8 0), (.int .u8 0), (.int .u8 0), (.int .u8 0), (.int .u8 0), (.int .u8 0), (.int .u8 0), (.int .u8 0), (.int .u8 0), (.int .u8 0), (.int .u8 0), (.int .u8 0), (.int .u8 0), (.int .u8 0), (.int .u8 0), (.int .u8 0), (.int .u8 0), (.int .u8 0), (.int .u8 0), (.int .u8 0), (.int .u8 0), (.int .u8 0), (.int .u8 0), (.int .u8 0), (.int .u8 0), (.int .u8 0), (.int .u8 0), (.int .u8 0), (.int .u8 0), (.int .u8 0), (.int .u8 0), (.int .i64 0), (.int .u64 0)]) := by unfold zeroB; kernel_rfl
theorem TyTD.z137 : zeroB Try.prog 137 (.agg #[(.int .i64 0), (.int .i64 0), (.int .i64 0), (.int .i64 0)]) := by unfold zeroB; kernel_rfl
theorem ext_pushed_f36_sh {h h1 : Heap} {o : Obj} (e : h1 = Array.push h o) : Ext h h1 := by rw [e]; exact Ext.push _ _
theorem f52_sh (a3 : Int) (b : Option Addr) (a1 : Nat) (a6 : Nat) (h : Heap) (R : Value → Heap → Prop)
  (H : (∃ A3 : Int → Int → Heap → Prop, (((decide ((a1 : Int) ≥ 32)) = true → (∀ v h2, v = Array.size h → h2 = Array.push h (.cells #[(.int .u64 0), (.int .u64 0), (.int .u64 0), (.int .u64 0)] 111) → (HWs h2 v 0 4 ∧ ∀ h3, h3 = hsets h2 v 0 [(.int .u64 a3), (.int .u64 (IntKind.u64.wrap (a3 + 14029467366897019727))), (.int .u64 a3), (.int .u64 a3)] → ((0 : Int) ≤ 0 ∧ (0 : Int) < 4 ∧ (∃ x : Int, hcell h3 v (0 + (Int.toNat 0) * 1) = some (.int .u64 x) ∧ ((0 : Int) ≤ 0 ∧ (0 : Int) < 4 ∧ (HW h3 v (0 + (Int.toNat 0) * 1) ∧ ∀ h4, h4 = hset h3 v (0 + (Int.toNat 0) * 1) (.int .u64 (IntKind.u64.wrap (x + 11400714785074694791))) → ((0 : Int) ≤ 0 ∧ (0 : Int) < 4 ∧ (∃ c2 : Int, hcell h4 v (0 + (Int.toNat 0) * 1) = some (.int .u64 c2) ∧ ((0 : Int) ≤ 0 ∧ (0 : Int) < 4 ∧ (HW h4 v (0 + (Int.toNat 0) * 1) ∧ ∀ h5, h5 = hset h4 v (0 + (Int.toNat 0) * 1) (.int .u64 (IntKind.u64.wrap (c2 + 14029467366897019727))) → ((0 : Int) ≤ 3 ∧ (3 : Int) < 4 ∧ (∃ c1 : Int, hcell h5 v (0 + (Int.toNat 3) * 1) = some (.int .u64 c1) ∧ ((0 : Int) ≤ 3 ∧ (3 : Int) < 4 ∧ (HW h5 v (0 + (Int.toNat 3) * 1) ∧ ∀ h6, h6 = hset h5 v (0 + (Int.toNat 3) * 1) (.int .u64 (IntKind.u64.wrap (c1 - 11400714785074694791))) → (∃ (d5 : Int → Heap → Prop) (c4 : Int → Heap → Nat), d5 0 h6 ∧ (∀ (a4 : Int) (h7 : Heap), d5 a4 h7 → (((decide ((IntKind.i64.wrap ((a1 : Int) - a4)) ≥ 32)) = true → (∃ (c9 : Int → Heap → Prop) (c6 : Int → Heap → Nat), c9 0 h7 ∧ (∀ (i : Int) (h8 : Heap), c9 i h8 → (((decide (i < 4)) = true → ((0 : Int) ≤ i ∧ (i : Int) < 4 ∧ (∃ b3 : Int, hcell h8 v (0 + (Int.toNat i) * 1) = some (.int .u64 b3) ∧ (∃ r : Int, (∀ f5, Ext h8 f5 → HC Try.prog 67 #[(.slice b a1 a6), (.int .i64 (IntKind.i64.wrap (a4 + (IntKind.i64.wrap (8 * i))))), (.int .i64 8)] f5 (fun vv h' => vv = (.int .u64 r) ∧ h' = f5)) ∧ (∃ b0 : Int, (∀ f3, Ext h8 f3 → HC Try.prog 66 #[(.int .u64 b3), (.int .u64 r)] f3 (fun vv h' => vv = (.int .u64 b0) ∧ h' = f3)) ∧ ((0 : Int) ≤ i ∧ (i : Int) < 4 ∧ (HW h8 v (0 + (Int.toNat i) * 1) ∧ ∀ h9, h9 = hset h8 v (0 + (Int.toNat i) * 1) (.int .u64 b0) → (c9 (IntKind.i64.wrap (i + 1)) h9 ∧ c6 (IntKind.i64.wrap (i + 1)) h9 < c6 i h8)))))))) ∧ ((decide (i < 4)) = false → (d5 (IntKind.i64.wrap (a4 + 32)) h8 ∧ c4 (IntKind.i64.wrap (a4 + 32)) h8 < c4 a4 h7)))))) ∧ ((decide ((IntKind.i64.wrap ((a1 : Int) - a4)) ≥ 32)) = false → ((0 : Int) ≤ 0 ∧ (0 : Int) < 4 ∧ (∃ b3 : Int, hcell h7 v (0 + (Int.toNat 0) * 1) = some (.int .u64 b3) ∧ (∃ r : Int, (∀ e9, Ext h7 e9 → HC Try.prog 68 #[(.int .u64 b3), (.int .i64 1)] e9 (fun vv h' => vv = (.int .u64 r) ∧ h' = e9)) ∧ ((0 : Int) ≤ 1 ∧ (1 : Int) < 4 ∧ (∃ d6 : Int, hcell h7 v (0 + (Int.toNat 1) * 1) = some (.int .u64 d6) ∧ (∃ b0 : Int, (∀ e8, Ext h7 e8 → HC Try.prog 68 #[(.int .u64 d6), (.int .i64 7)] e8 (fun vv h' => vv = (.int .u64 b0) ∧ h' = e8)) ∧ ((0 : Int) ≤ 2 ∧ (2 : Int) < 4 ∧ (∃ d3 : Int, hcell h7 v (0 + (Int.toNat 2) * 1) = some (.int .u64 d3) ∧ (∃ b9 : Int, (∀ f4, Ext h7 f4 → HC Try.prog 68 #[(.int .u64 d3), (.int .i64 12)] f4 (fun vv h' => vv = (.int .u64 b9) ∧ h' = f4)) ∧ ((0 : Int) ≤ 3 ∧ (3 : Int) < 4 ∧ (∃ c8 : Int, hcell h7 v (0 + (Int.toNat 3) * 1) = some (.int .u64 c8) ∧ (∃ c0 : Int, (∀ f0, Ext h7 f0 → HC Try.prog 68 #[(.int .u64 c8), (.int .i64 18)] f0 (fun vv h' => vv = (.int .u64 c0) ∧ h' = f0)) ∧ (∃ (d0 : Int → Int → Prop) (c7 : Int → Int → Nat), d0 (IntKind.u64.wrap ((IntKind.u64.wrap ((IntKind.u64.wrap (r + b0)) + b9)) + c0)) 0 ∧ (∀ (a8 : Int) (i : Int), d0 a8 i → (((decide (i < 4)) = true → ((0 : Int) ≤ i ∧ (i : Int) < 4 ∧ (∃ d1 : Int, hcell h7 v (0 + (Int.toNat i) * 1) = some (.int .u64 d1) ∧ (∃ b5 : Int, HC Try.prog 66 #[(.int .u64 0), (.int .u64 d1)] h7 (fun vv h' => vv = (.int .u64 b5) ∧ h' = h7) ∧ (d0 (IntKind.u64.wrap ((IntKind.u64.wrap ((ibxor .u64 a8 b5) * 11400714785074694791)) + 9650029242287828579)) (IntKind.i64.wrap (i + 1)) ∧ c7 (IntKind.u64.wrap ((IntKind.u64.wrap ((ibxor .u64 a8 b5) * 11400714785074694791)) + 9650029242287828579)) (IntKind.i64.wrap (i + 1)) < c7 a8 i))))) ∧ ((decide (i < 4)) = false → (A3 a8 a4 h7)))))))))))))))))))))))))))))))))))) ∧ ((decide ((a1 : Int) ≥ 32)) = false → (A3 (IntKind.u64.wrap (a3 + 2870177450012600261)) 0 h))) ∧ (∀ (hv : Int) (b7 : Int) (h1 : Heap), A3 hv b7 h1 → (∃ (d2 : Int → Int → Prop) (c5 : Int → Int → Nat), d2 (IntKind.u64.wrap (hv + (IntKind.u64.wrap (a1 : Int)))) b7 ∧ (∀ (a9 : Int) (a2 : Int), d2 a9 a2 → (((decide ((IntKind.i64.wrap ((a1 : Int) - a2)) ≥ 8)) = true → (∃ b2 : Int, HC Try.prog 67 #[(.slice b a1 a6), (.int .i64 a2), (.int .i64 8)] h1 (fun vv h' => vv = (.int .u64 b2) ∧ h' = h1) ∧ (∃ b1 : Int, HC Try.prog 66 #[(.int .u64 0), (.int .u64 b2)] h1 (fun vv h' => vv = (.int .u64 b1) ∧ h' = h1) ∧ (∃ a7 : Int, HC Try.prog 68 #[(.int .u64 (ibxor .u64 a9 b1)), (.int .i64 27)] h1 (fun vv h' => vv = (.int .u64 a7) ∧ h' = h1) ∧ (d2 (IntKind.u64.wrap ((IntKind.u64.wrap (a7 * 11400714785074694791)) + 9650029242287828579)) (IntKind.i64.wrap (a2 + 8)) ∧ c5 (IntKind.u64.wrap ((IntKind.u64.wrap (a7 * 11400714785074694791)) + 9650029242287828579)) (IntKind.i64.wrap (a2 + 8)) < c5 a9 a2))))) ∧ ((decide ((IntKind.i64.wrap ((a1 : Int) - a2)) ≥ 8)) = false → (∃ b6 b4 : Int, (((decide ((IntKind.i64.wrap ((a1 : Int) - a2)) ≥ 4)) = true → (∃ b2 : Int, HC Try.prog 67 #[(.slice b a1 a6), (.int .i64 a2), (.int .i64 4)] h1 (fun vv h' => vv = (.int .u64 b2) ∧ h' = h1) ∧ (∃ b1 : Int, HC Try.prog 68 #[(.int .u64 (ibxor .u64 a9 (IntKind.u64.wrap (b2 * 11400714785074694791)))), (.int .i64 23)] h1 (fun vv h' => vv = (.int .u64 b1) ∧ h' = h1) ∧ (b6 = (IntKind.u64.wrap ((IntKind.u64.wrap (b1 * 14029467366897019727)) + 1609587929392839161)) ∧ b4 = (IntKind.i64.wrap (a2 + 4)))))) ∧ ((decide ((IntKind.i64.wrap ((a1 : Int) - a2)) ≥ 4)) = false → (b6 = a9 ∧ b4 = a2))) ∧ (∃ (d4 : Int → Int → Prop) (c3 : Int → Int → Nat), d4 b6 b4 ∧ (∀ (a0 : Int) (a5 : Int), d4 a0 a5 → (((decide (a5 < (a1 : Int))) = true → (∃ e6 e5 : Nat, b = some ⟨e6, e5, none⟩ ∧ (0 : Int) ≤ a5 ∧ a5 < (a1 : Int) ∧ (∃ b8 : Int, hcell h1 e6 (e5 + (Int.toNat a5) * 1) = some (.int .u8 b8) ∧ (∃ a7 : Int, HC Try.prog 68 #[(.int .u64 (ibxor .u64 a0 (IntKind.u64.wrap ((IntKind.u64.wrap b8) * 2870177450012600261)))), (.int .i64 11)] h1 (fun vv h' => vv = (.int .u64 a7) ∧ h' = h1) ∧ (d4 (IntKind.u64.wrap (a7 * 11400714785074694791)) (IntKind.i64.wrap (a5 + 1)) ∧ c3 (IntKind.u64.wrap (a7 * 11400714785074694791)) (IntKind.i64.wrap (a5 + 1)) < c3 a0 a5))))) ∧ ((decide (a5 < (a1 : Int))) = false → R (.int .u64 (ibxor .u64 (IntKind.u64.wrap ((ibxor .u64 (IntKind.u64.wrap ((ibxor .u64 a0 (Int.fdiv a0 (2 ^ min (Int.toNat 33) 64))) * 14029467366897019727)) (Int.fdiv (IntKind.u64.wrap ((ibxor .u64 a0 (Int.fdiv a0 (2 ^ min (Int.toNat 33) 64))) * 14029467366897019727)) (2 ^ min (Int.toNat 29) 64))) * 1609587929392839161)) (Int.fdiv (IntKind.u64.wrap ((ibxor .u64 (IntKind.u64.wrap ((ibxor .u64 a0 (Int.fdiv a0 (2 ^ min (Int.toNat 33) 64))) * 14029467366897019727)) (Int.fdiv (IntKind.u64.wrap ((ibxor .u64 a0 (Int.fdiv a0 (2 ^ min (Int.toNat 33) 64))) * 14029467366897019727)) (2 ^ min (Int.toNat 29) 64))) * 1609587929392839161)) (2 ^ min (Int.toNat 32) 64)))) h1)))))))))))) :
  HC Try.prog 52 #[(.int .u64 a3), (.slice b a1 a6)] h R := by
 refine hc_of (args := [(.int .u64 a3), (.slice b a1 a6)]) Try.func52 rfl Try.ntmps52 (Nat.le_of_ble_eq_true rfl) ?_
 refine xs (xr ?_)
 refine lv rfl rfl (va rfl) ?_
 refine ln (qn (xs (xr ?_)))
 refine lv rfl rfl (vm rfl) (lv rfl rfl (vr rfl rfl rfl) (lv rfl rfl (va rfl) ?_))
 refine ln (qn (xs (xr ?_)))
 refine lv rfl rfl (va rfl) ?_
 refine ln (qn ?_)
 obtain ⟨A3, e7, f1⟩ := H
 refine xk (fun ρ h' => ∃ hv b7 : Int, (A3 hv b7 h' ∧ True) ∧ Has ρ [(1, (.slice b a1 a6)), (5, (.int .u64 hv)), (6, (.int .i64 b7))]) ?_ ?_
 ·have H := e7; clear e7 f1
  refine xs (xr ?_)
  refine lv rfl rfl (vm rfl) (lv rfl rfl (v := (.int .i64 (a1 : Int))) (hv_len (n := a1) TyTD.u53 rfl) (lv rfl rfl (vr rfl rfl rfl) ?_))
  refine ln (qn ?_)
  refine xc (b := decide ((a1 : Int) ≥ 32)) rfl (fun f2 => ?_) (fun f2 => ?_)
  ·replace H := H.1 f2
   refine xs (xr ?_)
   refine lv rfl rfl (vm rfl) (lv rfl rfl (vm rfl) (lv rfl rfl (vr rfl rfl rfl) (lv rfl rfl (vm rfl) (lv rfl rfl (vm rfl) (lv rfl rfl (v := (.agg #[(.int .u64 a3), (.int .u64 (IntKind.u64.wrap (a3 + 14029467366897019727))), (.int .u64 a3), (.int .u64 a3)])) (hv_buildA (vs := [(0, (.int .u64 a3)), (1, (.int .u64 (IntKind.u64.wrap (a3 + 14029467366897019727)))), (2, (.int .u64 a3)), (3, (.int .u64 a3))]) (cs := #[(.int .u64 a3), (.int .u64 (IntKind.u64.wrap (a3 + 14029467366897019727))), (.int .u64 a3), (.int .u64 a3)]) TyTD.u111 TyTD.z111 TyTD.sz31 rfl (by kernel_rfl)) ?_)))))
   refine lp rfl rfl (hn_alloc TyTD.z111 ?_)
   intro v h2 o2 f9
   replace H := H v h2 o2 f9
   have o6 := ext_pushed_f36_sh f9
   obtain ⟨g8, H⟩ := H
   refine lp rfl rfl (hn_stores (vs := [(.int .u64 a3), (.int .u64 (IntKind.u64.wrap (a3 + 14029467366897019727))), (.int .u64 a3), (.int .u64 a3)]) rfl rfl TyTD.sz111 rfl g8 ?_)
   intro h3 o4
   replace H := H h3 o4
   refine ln (qn (xs (xr ?_)))
   obtain ⟨k6, n9, H⟩ := H
   refine lv rfl rfl (v := (ptr v (0 + (Int.toNat 0) * 1))) (hv_indexA TyTD.ea111 (b := v) (o := 0) rfl rfl k6 n9) ?_
   obtain ⟨x, n7, H⟩ := H
   refine lv rfl rfl (vl TyTD.agg31 rfl n7) (lv rfl rfl (vr rfl rfl rfl) ?_)
   obtain ⟨j5, j0, H⟩ := H
   refine lv rfl rfl (v := (ptr v (0 + (Int.toNat 0) * 1))) (hv_indexA TyTD.ea111 (b := v) (o := 0) rfl rfl j5 j0) ?_
   obtain ⟨i0, H⟩ := H
   refine lp rfl rfl (hn_store (v := (.int .u64 (IntKind.u64.wrap (x + 11400714785074694791)))) rfl rfl TyTD.sz31 rfl i0 ?_)
   intro h4 m4
   replace H := H h4 m4
   refine ln (qn (xs (xr ?_)))
   obtain ⟨k4, i5, H⟩ := H
   refine lv rfl rfl (v := (ptr v (0 + (Int.toNat 0) * 1))) (hv_indexA TyTD.ea111 (b := v) (o := 0) rfl rfl k4 i5) ?_
   obtain ⟨c2, g9, H⟩ := H
   refine lv rfl rfl (vl TyTD.agg31 rfl g9) (lv rfl rfl (vr rfl rfl rfl) ?_)
   obtain ⟨n1, j6, H⟩ := H
   refine lv rfl rfl (v := (ptr v (0 + (Int.toNat 0) * 1))) (hv_indexA TyTD.ea111 (b := v) (o := 0) rfl rfl n1 j6) ?_
   obtain ⟨i7, H⟩ := H
   refine lp rfl rfl (hn_store (v := (.int .u64 (IntKind.u64.wrap (c2 + 14029467366897019727)))) rfl rfl TyTD.sz31 rfl i7 ?_)
   intro h5 k0
   replace H := H h5 k0
   refine ln (qn (xs (xr ?_)))
   obtain ⟨i8, l7, H⟩ := H
   refine lv rfl rfl (v := (ptr v (0 + (Int.toNat 3) * 1))) (hv_indexA TyTD.ea111 (b := v) (o := 0) rfl rfl i8 l7) ?_
   obtain ⟨c1, l0, H⟩ := H
   refine lv rfl rfl (vl TyTD.agg31 rfl l0) (lv rfl rfl (vr rfl rfl rfl) ?_)
   obtain ⟨o1, i4, H⟩ := H
   refine lv rfl rfl (v := (ptr v (0 + (Int.toNat 3) * 1))) (hv_indexA TyTD.ea111 (b := v) (o := 0) rfl rfl o1 i4) ?_
   obtain ⟨g7, H⟩ := H
   refine lp rfl rfl (hn_store (v := (.int .u64 (IntKind.u64.wrap (c1 - 11400714785074694791)))) rfl rfl TyTD.sz31 rfl g7 ?_)
   intro h6 m0
   replace H := H h6 m0
   refine ln (qn (xs (xb ?_)))
   obtain ⟨d5, c4, n3, g1⟩ := H
   refine xl (σ := Int) (fun s => [(1, (.slice b a1 a6)), (6, (.int .i64 s)), (7, (ptr v 0))]) (fun s h' => d5 s h' ∧ True) (fun s h' => c4 s h') 0 ⟨n3, trivial⟩ (hc rfl (hc rfl (hc rfl hn))) ?_
   rintro a4 ρ h7 ⟨j9, -⟩
   have H := g1 a4 h7 j9
   refine xs (xs (xr ?_))
   refine lv rfl rfl (vm rfl) (lv rfl rfl (v := (.int .i64 (a1 : Int))) (hv_len (n := a1) TyTD.u53 rfl) (lv rfl rfl (vm rfl) (lv rfl rfl (vr rfl rfl rfl) (lv rfl rfl (vr rfl rfl rfl) ?_))))
   refine ln (qn ?_)
   refine xc (b := decide ((IntKind.i64.wrap ((a1 : Int) - a4)) ≥ 32)) rfl (fun d9 => ?_) (fun d9 => ?_)
   ·replace H := H.1 d9
    refine xi (qn (xb (xs (xs (xr ?_)))))
    refine lv rfl rfl (va rfl) ?_
    refine ln (qn (xb ?_))
    obtain ⟨c9, c6, i3, i9⟩ := H
    refine xl (σ := Int) (fun s => [(1, (.slice b a1 a6)), (6, (.int .i64 a4)), (7, (ptr v 0)), (8, (.int .i64 s))]) (fun s h' => c9 s h' ∧ True) (fun s h' => c6 s h') 0 ⟨i3, trivial⟩ (hc rfl (hc rfl (hc rfl (hc rfl hn)))) ?_
    rintro i ρ h8 ⟨k2, -⟩
    have H := i9 i h8 k2
    refine xs (xs (xr ?_))
    refine lv rfl rfl (vm rfl) (lv rfl rfl (vr rfl rfl rfl) ?_)
    refine ln (qn ?_)
    refine xc (b := decide (i < 4)) rfl (fun d7 => ?_) (fun d7 => ?_)
    ·replace H := H.1 d7
     refine xi (qn (xs (xb ?_)))
     refine hx_draw TyTD.mixed [.pure, .pure, .pure, .read, .pure, .pure, .pure, .pure, .pure, .read, .read, .pure, .wild] [0, 1, 2, 3, 4, 5, 6, 7, 8, 9, 10, 11, 12] (by kernel_rfl) ?_
     refine pp (i := 0) rfl (wanted_0 rfl) rfl (.int .i64 i) (fun _ => vm rfl) ?_
     refine pp (i := 1) rfl (wanted_0 rfl) rfl (.int .i64 i) (fun _ => vm rfl) ?_
     obtain ⟨n4, m8, H⟩ := H
     refine pp (i := 2) rfl (wanted_0 rfl) rfl (ptr v (0 + (Int.toNat i) * 1)) (fun _ => hv_indexA TyTD.ea111 (b := v) (o := 0) rfl rfl n4 m8) ?_
     obtain ⟨b3, o0, H⟩ := H
     refine pr (i := 3) rfl (wanted_0 rfl) rfl (.int .u64 b3) (fun _ he => vl TyTD.agg31 rfl (Ext.cell he o0)) ?_
     refine pp (i := 4) rfl (wanted_0 rfl) rfl (.slice b a1 a6) (fun _ => vm rfl) ?_
     refine pp (i := 5) rfl (wanted_0 rfl) rfl (.int .i64 a4) (fun _ => vm rfl) ?_
     refine pp (i := 6) rfl (wanted_0 rfl) rfl (.int .i64 i) (fun _ => vm rfl) ?_
     refine pp (i := 7) rfl (wanted_0 rfl) rfl (.int .i64 (IntKind.i64.wrap (8 * i))) (fun _ => vr rfl rfl rfl) ?_
     refine pp (i := 8) rfl (wanted_0 rfl) rfl (.int .i64 (IntKind.i64.wrap (a4 + (IntKind.i64.wrap (8 * i))))) (fun _ => vr rfl rfl rfl) ?_
     obtain ⟨r, k8, H⟩ := H
     refine pr (i := 9) rfl (wanted_0 rfl) rfl (.int .u64 r) (fun _ he => hv_call TyTD.cb67 (vs := [(.slice b a1 a6), (.int .i64 (IntKind.i64.wrap (a4 + (IntKind.i64.wrap (8 * i))))), (.int .i64 8)]) rfl (k8 _ he)) ?_
     obtain ⟨b0, l2, H⟩ := H
     refine pr (i := 10) rfl (wanted_0 rfl) rfl (.int .u64 b0) (fun _ he => hv_call TyTD.cb66 (vs := [(.int .u64 b3), (.int .u64 r)]) rfl (l2 _ he)) ?_
     obtain ⟨m3, m9, H⟩ := H
     refine pp (i := 11) rfl (wanted_0 rfl) rfl (ptr v (0 + (Int.toNat i) * 1)) (fun _ => hv_indexA TyTD.ea111 (b := v) (o := 0) rfl rfl m3 m9) ?_
     obtain ⟨j2, H⟩ := H
     refine hp_wild (i := 12) rfl (wanted_0 rfl) rfl (hn_store (v := (.int .u64 b0)) rfl rfl TyTD.sz31 rfl j2 ?_)
     intro h9 m1
     replace H := H h9 m1
     refine hp_nil ?_
     refine bn (qn (xr ?_))
     refine lv rfl rfl (vm rfl) (lv rfl rfl (vr rfl rfl rfl) (lv rfl rfl (va rfl) ?_))
     refine ln (qn ?_)
     exact ⟨IntKind.i64.wrap (i + 1), ⟨⟨H.1, trivial⟩, H.2⟩, (hc rfl (hc rfl (hc rfl (hc rfl hn))))⟩
    ·replace H := H.2 d7
     refine xe (qe (qe (bh (qn (xr ?_)))))
     refine lv rfl rfl (vm rfl) (lv rfl rfl (vr rfl rfl rfl) (lv rfl rfl (va rfl) ?_))
     refine ln (bn (qn ?_))
     exact ⟨IntKind.i64.wrap (a4 + 32), ⟨⟨H.1, trivial⟩, H.2⟩, (hc rfl (hc rfl (hc rfl hn)))⟩
   ·replace H := H.2 d9
    refine xe (qe (qe (bh (qn (xs ?_)))))
    refine hx_draw TyTD.mixed [.pure, .read, .read, .pure, .read, .read, .pure, .pure, .read, .read, .pure, .pure, .read, .read, .pure, .pure] [0, 1, 2, 3, 4, 5, 6, 7, 8, 9, 10, 11, 12, 13, 14, 15] (by kernel_rfl) ?_
    obtain ⟨n5, k5, H⟩ := H
    refine pp (i := 0) rfl (wanted_0 rfl) rfl (ptr v (0 + (Int.toNat 0) * 1)) (fun _ => hv_indexA TyTD.ea111 (b := v) (o := 0) rfl rfl n5 k5) ?_
    obtain ⟨b3, m2, H⟩ := H
    refine pr (i := 1) rfl (wanted_0 rfl) rfl (.int .u64 b3) (fun _ he => vl TyTD.agg31 rfl (Ext.cell he m2)) ?_
    obtain ⟨r, n6, H⟩ := H
    refine pr (i := 2) rfl (wanted_0 rfl) rfl (.int .u64 r) (fun _ he => hv_call TyTD.cb68 (vs := [(.int .u64 b3), (.int .i64 1)]) rfl (n6 _ he)) ?_
    obtain ⟨k1, n2, H⟩ := H
    refine pp (i := 3) rfl (wanted_0 rfl) rfl (ptr v (0 + (Int.toNat 1) * 1)) (fun _ => hv_indexA TyTD.ea111 (b := v) (o := 0) rfl rfl k1 n2) ?_
    obtain ⟨d6, m6, H⟩ := H
    refine pr (i := 4) rfl (wanted_0 rfl) rfl (.int .u64 d6) (fun _ he => vl TyTD.agg31 rfl (Ext.cell he m6)) ?_
    obtain ⟨b0, i6, H⟩ := H
    refine pr (i := 5) rfl (wanted_0 rfl) rfl (.int .u64 b0) (fun _ he => hv_call TyTD.cb68 (vs := [(.int .u64 d6), (.int .i64 7)]) rfl (i6 _ he)) ?_
    refine pp (i := 6) rfl (wanted_0 rfl) rfl (.int .u64 (IntKind.u64.wrap (r + b0))) (fun _ => vr rfl rfl rfl) ?_
    obtain ⟨l9, i2, H⟩ := H
    refine pp (i := 7) rfl (wanted_0 rfl) rfl (ptr v (0 + (Int.toNat 2) * 1)) (fun _ => hv_indexA TyTD.ea111 (b := v) (o := 0) rfl rfl l9 i2) ?_
    obtain ⟨d3, j3, H⟩ := H
    refine pr (i := 8) rfl (wanted_0 rfl) rfl (.int .u64 d3) (fun _ he => vl TyTD.agg31 rfl (Ext.cell he j3)) ?_
    obtain ⟨b9, k9, H⟩ := H
    refine pr (i := 9) rfl (wanted_0 rfl) rfl (.int .u64 b9) (fun _ he => hv_call TyTD.cb68 (vs := [(.int .u64 d3), (.int .i64 12)]) rfl (k9 _ he)) ?_
    refine pp (i := 10) rfl (wanted_0 rfl) rfl (.int .u64 (IntKind.u64.wrap ((IntKind.u64.wrap (r + b0)) + b9))) (fun _ => vr rfl rfl rfl) ?_
    obtain ⟨l1, l5, H⟩ := H
    refine pp (i := 11) rfl (wanted_0 rfl) rfl (ptr v (0 + (Int.toNat 3) * 1)) (fun _ => hv_indexA TyTD.ea111 (b := v) (o := 0) rfl rfl l1 l5) ?_
    obtain ⟨c8, i1, H⟩ := H
    refine pr (i := 12) rfl (wanted_0 rfl) rfl (.int .u64 c8) (fun _ he => vl TyTD.agg31 rfl (Ext.cell he i1)) ?_
    obtain ⟨c0, n8, H⟩ := H
    refine pr (i := 13) rfl (wanted_0 rfl) rfl (.int .u64 c0) (fun _ he => hv_call TyTD.cb68 (vs := [(.int .u64 c8), (.int .i64 18)]) rfl (n8 _ he)) ?_
    refine pp (i := 14) rfl (wanted_0 rfl) rfl (.int .u64 (IntKind.u64.wrap ((IntKind.u64.wrap ((IntKind.u64.wrap (r + b0)) + b9)) + c0))) (fun _ => vr rfl rfl rfl) ?_
    refine pp (i := 15) rfl (wanted_0 rfl) rfl (.int .u64 (IntKind.u64.wrap ((IntKind.u64.wrap ((IntKind.u64.wrap (r + b0)) + b9)) + c0))) (fun _ => va rfl) ?_
    refine hp_nil ?_
    refine qn (xs (xr ?_))
    refine lv rfl rfl (va rfl) ?_
    refine ln (qn (xb ?_))
    obtain ⟨d0, c7, n0, g6⟩ := H
    refine xl (σ := Int × Int) (fun s => [(1, (.slice b a1 a6)), (5, (.int .u64 s.1)), (6, (.int .i64 a4)), (7, (ptr v 0)), (9, (.int .i64 s.2))]) (fun s h' => d0 s.1 s.2 ∧ h7 = h') (fun s _ => c7 s.1 s.2) (IntKind.u64.wrap ((IntKind.u64.wrap ((IntKind.u64.wrap (r + b0)) + b9)) + c0), 0) ⟨n0, rfl⟩ (hc rfl (hc rfl (hc rfl (hc rfl (hc rfl hn))))) ?_
    rintro ⟨a8, i⟩ ρ _ ⟨k3, rfl⟩
    have H := g6 a8 i k3
    refine xs (xs (xr ?_))
    refine lv rfl rfl (vm rfl) (lv rfl rfl (vr rfl rfl rfl) ?_)
    refine ln (qn ?_)
    refine xc (b := decide (i < 4)) rfl (fun e4 => ?_) (fun e4 => ?_)
    ·replace H := H.1 e4
     refine xi (qn (xs (xb (xr ?_))))
     refine lv rfl rfl (vm rfl) (lv rfl rfl (vm rfl) ?_)
     obtain ⟨l8, j1, H⟩ := H
     refine lv rfl rfl (v := (ptr v (0 + (Int.toNat i) * 1))) (hv_indexA TyTD.ea111 (b := v) (o := 0) rfl rfl l8 j1) ?_
     obtain ⟨d1, k7, H⟩ := H
     refine lv rfl rfl (vl TyTD.agg31 rfl k7) ?_
     obtain ⟨b5, g5, H⟩ := H
     refine lv rfl rfl (hv_call TyTD.cb66 (vs := [(.int .u64 0), (.int .u64 d1)]) rfl g5) (lv rfl rfl (v := (.int .u64 (ibxor .u64 a8 b5))) (hv_bits rfl rfl rfl) (lv rfl rfl (vr rfl rfl rfl) (lv rfl rfl (vr rfl rfl rfl) (lv rfl rfl (va rfl) ?_))))
     refine ln (bn (qn (xr ?_)))
     refine lv rfl rfl (vm rfl) (lv rfl rfl (vr rfl rfl rfl) (lv rfl rfl (va rfl) ?_))
     refine ln (qn ?_)
     exact ⟨(IntKind.u64.wrap ((IntKind.u64.wrap ((ibxor .u64 a8 b5) * 11400714785074694791)) + 9650029242287828579), IntKind.i64.wrap (i + 1)), ⟨⟨H.1, rfl⟩, H.2⟩, (hc rfl (hc rfl (hc rfl (hc rfl (hc rfl hn)))))⟩
    ·replace H := H.2 e4
     refine xe (qe (qe (bh (qn ?_))))
     exact ⟨_, _, ⟨H, trivial⟩, (hc rfl (hc rfl (hc rfl hn)))⟩
  ·replace H := H.2 f2
   refine xi (qn ?_)
   exact ⟨_, _, ⟨H, trivial⟩, (hc rfl (hc rfl (hc rfl hn)))⟩
 ·rintro ρ h1 ⟨hv, b7, ⟨o5, -⟩, hH⟩
  have H := f1 hv b7 h1 o5; clear e7 f1
  refine xh _ hH ?_
  refine xs (xr ?_)
  refine lv rfl rfl (vm rfl) (lv rfl rfl (vm rfl) (lv rfl rfl (v := (.int .i64 (a1 : Int))) (hv_len (n := a1) TyTD.u53 rfl) (lv rfl rfl (v := (.int .u64 (IntKind.u64.wrap (a1 : Int)))) (hv_convInt TyTD.u3 TyTD.u31 rfl) (lv rfl rfl (vr rfl rfl rfl) (lv rfl rfl (va rfl) ?_)))))
  refine ln (qn (xs (xb ?_)))
  obtain ⟨d2, c5, l4, j7⟩ := H
  refine xl (σ := Int × Int) (fun s => [(1, (.slice b a1 a6)), (5, (.int .u64 s.1)), (6, (.int .i64 s.2))]) (fun s h' => d2 s.1 s.2 ∧ h1 = h') (fun s _ => c5 s.1 s.2) (IntKind.u64.wrap (hv + (IntKind.u64.wrap (a1 : Int))), b7) ⟨l4, rfl⟩ (hc rfl (hc rfl (hc rfl hn))) ?_
  rintro ⟨a9, a2⟩ ρ _ ⟨m7, rfl⟩
  have H := j7 a9 a2 m7
  refine xs (xs (xr ?_))
  refine lv rfl rfl (vm rfl) (lv rfl rfl (v := (.int .i64 (a1 : Int))) (hv_len (n := a1) TyTD.u53 rfl) (lv rfl rfl (vm rfl) (lv rfl rfl (vr rfl rfl rfl) (lv rfl rfl (vr rfl rfl rfl) ?_))))
  refine ln (qn ?_)
  refine xc (b := decide ((IntKind.i64.wrap ((a1 : Int) - a2)) ≥ 8)) rfl (fun e0 => ?_) (fun e0 => ?_)
  ·replace H := H.1 e0
   refine xi (qn (xb (xs (xr ?_))))
   refine lv rfl rfl (vm rfl) (lv rfl rfl (vm rfl) (lv rfl rfl (vm rfl) ?_))
   obtain ⟨b2, l6, H⟩ := H
   refine lv rfl rfl (hv_call TyTD.cb67 (vs := [(.slice b a1 a6), (.int .i64 a2), (.int .i64 8)]) rfl l6) ?_
   obtain ⟨b1, g2, H⟩ := H
   refine lv rfl rfl (hv_call TyTD.cb66 (vs := [(.int .u64 0), (.int .u64 b2)]) rfl g2) (lv rfl rfl (v := (.int .u64 (ibxor .u64 a9 b1))) (hv_bits rfl rfl rfl) ?_)
   obtain ⟨a7, j4, H⟩ := H
   refine lv rfl rfl (hv_call TyTD.cb68 (vs := [(.int .u64 (ibxor .u64 a9 b1)), (.int .i64 27)]) rfl j4) (lv rfl rfl (vr rfl rfl rfl) (lv rfl rfl (vr rfl rfl rfl) (lv rfl rfl (va rfl) ?_)))
   refine ln (qn (xr ?_))
   refine lv rfl rfl (vm rfl) (lv rfl rfl (vr rfl rfl rfl) (lv rfl rfl (va rfl) ?_))
   refine ln (bn (qn ?_))
   exact ⟨(IntKind.u64.wrap ((IntKind.u64.wrap (a7 * 11400714785074694791)) + 9650029242287828579), IntKind.i64.wrap (a2 + 8)), ⟨⟨H.1, rfl⟩, H.2⟩, (hc rfl (hc rfl (hc rfl hn)))⟩
  ·replace H := H.2 e0
   refine xe (qe (qe (bh (qn ?_))))
   obtain ⟨b6, b4, e3, e2⟩ := H
   refine xk (fun ρ h' => h1 = h' ∧ Has ρ [(1, (.slice b a1 a6)), (5, (.int .u64 b6)), (6, (.int .i64 b4))]) ?_ ?_
   ·have H := e3; clear e3 e2
    refine xs (xr ?_)
    refine lv rfl rfl (vm rfl) (lv rfl rfl (v := (.int .i64 (a1 : Int))) (hv_len (n := a1) TyTD.u53 rfl) (lv rfl rfl (vm rfl) (lv rfl rfl (vr rfl rfl rfl) (lv rfl rfl (vr rfl rfl rfl) ?_))))
    refine ln (qn ?_)
    refine xc (b := decide ((IntKind.i64.wrap ((a1 : Int) - a2)) ≥ 4)) rfl (fun d8 => ?_) (fun d8 => ?_)
    ·replace H := H.1 d8
     refine xs (xr ?_)
     refine lv rfl rfl (vm rfl) (lv rfl rfl (vm rfl) (lv rfl rfl (vm rfl) ?_))
     obtain ⟨b2, g3, H⟩ := H
     refine lv rfl rfl (hv_call TyTD.cb67 (vs := [(.slice b a1 a6), (.int .i64 a2), (.int .i64 4)]) rfl g3) (lv rfl rfl (vr rfl rfl rfl) (lv rfl rfl (v := (.int .u64 (ibxor .u64 a9 (IntKind.u64.wrap (b2 * 11400714785074694791))))) (hv_bits rfl rfl rfl) ?_))
     obtain ⟨b1, m5, H⟩ := H
     refine lv rfl rfl (hv_call TyTD.cb68 (vs := [(.int .u64 (ibxor .u64 a9 (IntKind.u64.wrap (b2 * 11400714785074694791)))), (.int .i64 23)]) rfl m5) (lv rfl rfl (vr rfl rfl rfl) (lv rfl rfl (vr rfl rfl rfl) (lv rfl rfl (va rfl) ?_)))
     refine ln (qn (xr ?_))
     refine lv rfl rfl (vm rfl) (lv rfl rfl (vr rfl rfl rfl) (lv rfl rfl (va rfl) ?_))
     refine ln (qn ?_)
     obtain ⟨rfl, rfl⟩ := H
     exact ⟨rfl, (hc rfl (hc rfl (hc rfl hn)))⟩
    ·replace H := H.2 d8
     refine xi (qn ?_)
     obtain ⟨rfl, rfl⟩ := H
     exact ⟨rfl, (hc rfl (hc rfl (hc rfl hn)))⟩
   ·have H := e2; clear e3 e2
    rintro ρ _ ⟨rfl, hH⟩
    refine xh _ hH ?_
    refine xs (xb ?_)
    obtain ⟨d4, c3, g0, g4⟩ := H
    refine xl (σ := Int × Int) (fun s => [(1, (.slice b a1 a6)), (5, (.int .u64 s.1)), (6, (.int .i64 s.2))]) (fun s h' => d4 s.1 s.2 ∧ h1 = h') (fun s _ => c3 s.1 s.2) (b6, b4) ⟨g0, rfl⟩ (hc rfl (hc rfl (hc rfl hn))) ?_
    rintro ⟨a0, a5⟩ ρ _ ⟨j8, rfl⟩
    have H := g4 a0 a5 j8
    refine xs (xs (xr ?_))
    refine lv rfl rfl (vm rfl) (lv rfl rfl (vm rfl) (lv rfl rfl (v := (.int .i64 (a1 : Int))) (hv_len (n := a1) TyTD.u53 rfl) (lv rfl rfl (vr rfl rfl rfl) ?_)))
    refine ln (qn ?_)
    refine xc (b := decide (a5 < (a1 : Int))) rfl (fun e1 => ?_) (fun e1 => ?_)
    ·replace H := H.1 e1
     refine xi (qn (xb (xs (xr ?_))))
     refine lv rfl rfl (vm rfl) (lv rfl rfl (vm rfl) (lv rfl rfl (vm rfl) ?_))
     obtain ⟨e6, e5, o3, l3, f6, Hq⟩ := H
     subst o3
     have H := Hq; clear Hq
     refine lv rfl rfl (v := (ptr e6 (e5 + (Int.toNat a5) * 1))) (vi TyTD.el53 rfl rfl l3 f6) ?_
     obtain ⟨b8, f8, H⟩ := H
     refine lv rfl rfl (vl TyTD.agg5 rfl f8) (lv rfl rfl (v := (.int .u64 (IntKind.u64.wrap b8))) (hv_convInt TyTD.u5 TyTD.u31 rfl) (lv rfl rfl (vr rfl rfl rfl) (lv rfl rfl (v := (.int .u64 (ibxor .u64 a0 (IntKind.u64.wrap ((IntKind.u64.wrap b8) * 2870177450012600261))))) (hv_bits rfl rfl rfl) ?_)))
     obtain ⟨a7, f7, H⟩ := H
     refine lv rfl rfl (hv_call TyTD.cb68 (vs := [(.int .u64 (ibxor .u64 a0 (IntKind.u64.wrap ((IntKind.u64.wrap b8) * 2870177450012600261)))), (.int .i64 11)]) rfl f7) (lv rfl rfl (vr rfl rfl rfl) (lv rfl rfl (va rfl) ?_))
     refine ln (qn (xr ?_))
     refine lv rfl rfl (vm rfl) (lv rfl rfl (vr rfl rfl rfl) (lv rfl rfl (va rfl) ?_))
     refine ln (bn (qn ?_))
     exact ⟨(IntKind.u64.wrap (a7 * 11400714785074694791), IntKind.i64.wrap (a5 + 1)), ⟨⟨H.1, rfl⟩, H.2⟩, (hc rfl (hc rfl (hc rfl hn)))⟩
    ·replace H := H.2 e1
     refine xe (qe (qe (bh (qn (xs (xr ?_))))))
     refine lv rfl rfl (vm rfl) (lv rfl rfl (vm rfl) (lv rfl rfl (v := (.int .u64 (Int.fdiv a0 (2 ^ min (Int.toNat 33) 64)))) (hv_shift rfl rfl (by decide) rfl) (lv rfl rfl (v := (.int .u64 (ibxor .u64 a0 (Int.fdiv a0 (2 ^ min (Int.toNat 33) 64))))) (hv_bits rfl rfl rfl) (lv rfl rfl (vr rfl rfl rfl) (lv rfl rfl (va rfl) ?_)))))
     refine ln (qn (xs (xr ?_)))
     refine lv rfl rfl (vm rfl) (lv rfl rfl (vm rfl) (lv rfl rfl (v := (.int .u64 (Int.fdiv (IntKind.u64.wrap ((ibxor .u64 a0 (Int.fdiv a0 (2 ^ min (Int.toNat 33) 64))) * 14029467366897019727)) (2 ^ min (Int.toNat 29) 64)))) (hv_shift rfl rfl (by decide) rfl) (lv rfl rfl (v := (.int .u64 (ibxor .u64 (IntKind.u64.wrap ((ibxor .u64 a0 (Int.fdiv a0 (2 ^ min (Int.toNat 33) 64))) * 14029467366897019727)) (Int.fdiv (IntKind.u64.wrap ((ibxor .u64 a0 (Int.fdiv a0 (2 ^ min (Int.toNat 33) 64))) * 14029467366897019727)) (2 ^ min (Int.toNat 29) 64))))) (hv_bits rfl rfl rfl) (lv rfl rfl (vr rfl rfl rfl) (lv rfl rfl (va rfl) ?_)))))
     refine ln (qn (xs (xr ?_)))
     refine lv rfl rfl (vm rfl) (lv rfl rfl (vm rfl) (lv rfl rfl (v := (.int .u64 (Int.fdiv (IntKind.u64.wrap ((ibxor .u64 (IntKind.u64.wrap ((ibxor .u64 a0 (Int.fdiv a0 (2 ^ min (Int.toNat 33) 64))) * 14029467366897019727)) (Int.fdiv (IntKind.u64.wrap ((ibxor .u64 a0 (Int.fdiv a0 (2 ^ min (Int.toNat 33) 64))) * 14029467366897019727)) (2 ^ min (Int.toNat 29) 64))) * 1609587929392839161)) (2 ^ min (Int.toNat 32) 64)))) (hv_shift rfl rfl (by decide) rfl) (lv rfl rfl (v := (.int .u64 (ibxor .u64 (IntKind.u64.wrap ((ibxor .u64 (IntKind.u64.wrap ((ibxor .u64 a0 (Int.fdiv a0 (2 ^ min (Int.toNat 33) 64))) * 14029467366897019727)) (Int.fdiv (IntKind.u64.wrap ((ibxor .u64 a0 (Int.fdiv a0 (2 ^ min (Int.toNat 33) 64))) * 14029467366897019727)) (2 ^ min (Int.toNat 29) 64))) * 1609587929392839161)) (Int.fdiv (IntKind.u64.wrap ((ibxor .u64 (IntKind.u64.wrap ((ibxor .u64 a0 (Int.fdiv a0 (2 ^ min (Int.toNat 33) 64))) * 14029467366897019727)) (Int.fdiv (IntKind.u64.wrap ((ibxor .u64 a0 (Int.fdiv a0 (2 ^ min (Int.toNat 33) 64))) * 14029467366897019727)) (2 ^ min (Int.toNat 29) 64))) * 1609587929392839161)) (2 ^ min (Int.toNat 32) 64))))) (hv_bits rfl rfl rfl) (lv rfl rfl (va rfl) ?_))))
     refine ln (qn (xt ?_))
     exact endQ_ret _ (res_one Try.results52 (rv_tmp rfl)) H
theorem f62_sh (a0 : Int) (h : Heap) (R : Value → Heap → Prop)
  (H : (∀ nb h1, nb = Array.size h → h1 = Array.push h (.cells #[(.int .u64 a0), (.int .u64 (IntKind.u64.wrap ((IntKind.u64.wrap (a0 + 11400714785074694791)) + 14029467366897019727))), (.int .u64 (IntKind.u64.wrap (a0 + 14029467366897019727))), (.int .u64 a0), (.int .u64 (IntKind.u64.wrap (a0 - 11400714785074694791))), (.int .u8 0), (.int .u8 0), (.int .u8 0), (.int .u8 0), (.int .u8 0), (.int .u8 0), (.int .u8 0), (.int .u8 0), (.int .u8 0), (.int .u8 0), (.int .u8 0), (.int .u8 0), (.int .u8 0), (.int .u8 0), (.int .u8 0), (.int .u8 0), (.int .u8 0), (.int .u8 0), (.int .u8 0), (.int .u8 0), (.int .u8 0), (.int .u8 0), (.int .u8 0), (.int .u8 0), (.int .u8 0), (.int .u8 0), (.int .u8 0), (.int .u8 0), (.int .u8 0), (.int .u8 0), (.int .u8 0), (.int .u8 0), (.int .i64 0), (.int .u64 0)] 123) → R (ptr nb 0) h1)) :
  HC Try.prog 62 #[(.int .u64 a0)] h R := by
 refine hc_of (args := [(.int .u64 a0)]) Try.func62 rfl Try.ntmps62 (Nat.le_of_ble_eq_true rfl) ?_
 refine xs (xr ?_)
 refine lv rfl rfl (va rfl) ?_
 refine ln (qn (xs (xr ?_)))
 refine lv rfl rfl (va rfl) (lv rfl rfl (va rfl) ?_)
 refine ln (qn (xs (xr ?_)))
 refine lv rfl rfl (vm rfl) (lv rfl rfl (vm rfl) (lv rfl rfl (vm rfl) (lv rfl rfl (vr rfl rfl rfl) (lv rfl rfl (vm rfl) (lv rfl rfl (vr rfl rfl rfl) ?_)))))
 refine lv rfl rfl (vm rfl) (lv rfl rfl (vm rfl) (lv rfl rfl (vr rfl rfl rfl) (lv rfl rfl (vm rfl) (lv rfl rfl (vm rfl) (lv rfl rfl (vm rfl) ?_)))))
 refine lv rfl rfl (vr rfl rfl rfl) (lv rfl rfl (v := (.agg #[(.int .u64 (IntKind.u64.wrap ((IntKind.u64.wrap (a0 + 11400714785074694791)) + 14029467366897019727))), (.int .u64 (IntKind.u64.wrap (a0 + 14029467366897019727))), (.int .u64 a0), (.int .u64 (IntKind.u64.wrap (a0 - 11400714785074694791)))])) (hv_buildA (vs := [(0, (.int .u64 (IntKind.u64.wrap ((IntKind.u64.wrap (a0 + 11400714785074694791)) + 14029467366897019727)))), (1, (.int .u64 (IntKind.u64.wrap (a0 + 14029467366897019727)))), (2, (.int .u64 a0)), (3, (.int .u64 (IntKind.u64.wrap (a0 - 11400714785074694791))))]) (cs := #[(.int .u64 (IntKind.u64.wrap ((IntKind.u64.wrap (a0 + 11400714785074694791)) + 14029467366897019727))), (.int .u64 (IntKind.u64.wrap (a0 + 14029467366897019727))), (.int .u64 a0), (.int .u64 (IntKind.u64.wrap (a0 - 11400714785074694791)))]) TyTD.u111 TyTD.z111 TyTD.sz31 rfl (by kernel_rfl)) (lv rfl rfl (v := (.agg #[(.int .u64 a0), (.int .u64 (IntKind.u64.wrap ((IntKind.u64.wrap (a0 + 11400714785074694791)) + 14029467366897019727))), (.int .u64 (IntKind.u64.wrap (a0 + 14029467366897019727))), (.int .u64 a0), (.int .u64 (IntKind.u64.wrap (a0 - 11400714785074694791))), (.int .u8 0), (.int .u8 0), (.int .u8 0), (.int .u8 0), (.int .u8 0), (.int .u8 0), (.int .u8 0), (.int .u8 0), (.int .u8 0), (.int .u8 0), (.int .u8 0), (.int .u8 0), (.int .u8 0), (.int .u8 0), (.int .u8 0), (.int .u8 0), (.int .u8 0), (.int .u8 0), (.int .u8 0), (.int .u8 0), (.int .u8 0), (.int .u8 0), (.int .u8 0), (.int .u8 0), (.int .u8 0), (.int .u8 0), (.int .u8 0), (.int .u8 0), (.int .u8 0), (.int .u8 0), (.int .u8 0), (.int .u8 0), (.int .i64 0), (.int .u64 0)])) (vb (vs := [(0, (.int .u64 a0)), (1, (.agg #[(.int .u64 (IntKind.u64.wrap ((IntKind.u64.wrap (a0 + 11400714785074694791)) + 14029467366897019727))), (.int .u64 (IntKind.u64.wrap (a0 + 14029467366897019727))), (.int .u64 a0), (.int .u64 (IntKind.u64.wrap (a0 - 11400714785074694791)))]))]) (cs := #[(.int .u64 a0), (.int .u64 (IntKind.u64.wrap ((IntKind.u64.wrap (a0 + 11400714785074694791)) + 14029467366897019727))), (.int .u64 (IntKind.u64.wrap (a0 + 14029467366897019727))), (.int .u64 a0), (.int .u64 (IntKind.u64.wrap (a0 - 11400714785074694791))), (.int .u8 0), (.int .u8 0), (.int .u8 0), (.int .u8 0), (.int .u8 0), (.int .u8 0), (.int .u8 0), (.int .u8 0), (.int .u8 0), (.int .u8 0), (.int .u8 0), (.int .u8 0), (.int .u8 0), (.int .u8 0), (.int .u8 0), (.int .u8 0), (.int .u8 0), (.int .u8 0), (.int .u8 0), (.int .u8 0), (.int .u8 0), (.int .u8 0), (.int .u8 0), (.int .u8 0), (.int .u8 0), (.int .u8 0), (.int .u8 0), (.int .u8 0), (.int .u8 0), (.int .u8 0), (.int .u8 0), (.int .u8 0), (.int .i64 0), (.int .u64 0)]) TyTD.z123 TyTD.pl123 rfl (by kernel_rfl)) ?_))
 refine lp rfl rfl (hn_box (v := (.agg #[(.int .u64 a0), (.int .u64 (IntKind.u64.wrap ((IntKind.u64.wrap (a0 + 11400714785074694791)) + 14029467366897019727))), (.int .u64 (IntKind.u64.wrap (a0 + 14029467366897019727))), (.int .u64 a0), (.int .u64 (IntKind.u64.wrap (a0 - 11400714785074694791))), (.int .u8 0), (.int .u8 0), (.int .u8 0), (.int .u8 0), (.int .u8 0), (.int .u8 0), (.int .u8 0), (.int .u8 0), (.int .u8 0), (.int .u8 0), (.int .u8 0), (.int .u8 0), (.int .u8 0), (.int .u8 0), (.int .u8 0), (.int .u8 0), (.int .u8 0), (.int .u8 0), (.int .u8 0), (.int .u8 0), (.int .u8 0), (.int .u8 0), (.int .u8 0), (.int .u8 0), (.int .u8 0), (.int .u8 0), (.int .u8 0), (.int .u8 0), (.int .u8 0), (.int .u8 0), (.int .u8 0), (.int .u8 0), (.int .i64 0), (.int .u64 0)])) rfl ?_)
 intro nb h1 a2 a1
 replace H := H nb h1 a2 a1
 have a3 := ext_pushed_f36_sh a1
 refine lv rfl rfl (va rfl) ?_
 refine ln (qn (xt ?_))
 exact endQ_ret _ (res_one Try.results62 (rv_tmp rfl)) H
theorem f63_sh (a1 : Nat) (a2 : Nat) (b : Option Addr) (a6 : Nat) (b1 : Nat) (h : Heap) (R : Value → Heap → Prop)
  (H : (∃ x : Int, hcell h a1 (a2 + 38) = some (.int .u64 x) ∧ (HW h a1 (a2 + 38) ∧ ∀ h1, h1 = hset h a1 (a2 + 38) (.int .u64 (IntKind.u64.wrap (x + (IntKind.u64.wrap (a6 : Int))))) → (∃ (I4 : Option Addr → Nat → Nat → Heap → Prop) (b0 : Option Addr → Nat → Nat → Heap → Nat), I4 b a6 b1 h1 ∧ (∀ (a7 : Option Addr) (a0 : Nat) (a3 : Nat) (h2 : Heap), I4 a7 a0 a3 h2 → (((decide ((a0 : Int) > 0)) = true → (∃ a5 : Int, hcell h2 a1 (a2 + 37) = some (.int .i64 a5) ∧ (0 ≤ (a5 : Int) ∧ a5 ≤ ((32 : Nat) : Int) ∧ ((32 : Nat) : Int) ≤ (32 : Nat) ∧ ∀ sl : Option Addr, sl = slA (some ⟨a1, a2 + 5, none⟩) (Int.toNat a5) 1 32 → HCopy Try.prog 53 53 (.slice sl (Int.toNat (32 : Nat) - Int.toNat a5) (32 - Int.toNat a5)) (.slice a7 a0 a3) h2 (fun vv h3 => ∃ n : Nat, vv = (.int .i64 (n : Int)) ∧ (∃ a9 : Int, hcell h3 a1 (a2 + 37) = some (.int .i64 a9) ∧ (HW h3 a1 (a2 + 37) ∧ ∀ h4, h4 = hset h3 a1 (a2 + 37) (.int .i64 (IntKind.i64.wrap (a9 + (n : Int)))) → (0 ≤ ((n : Int) : Int) ∧ (n : Int) ≤ (a0 : Int) ∧ (a0 : Int) ≤ (a3 : Int) ∧ ∀ a4 : Option Addr, a4 = slA a7 (Int.toNat (n : Int)) 1 a3 → (∃ a8 : Int, hcell h4 a1 (a2 + 37) = some (.int .i64 a8) ∧ (((a8 == 32) = true → HC Try.prog 74 #[(ptr a1 a2)] h4 (fun vv h5 => vv = (.tuple #[]) ∧ (I4 a4 (Int.toNat (a0 : Int) - Int.toNat (n : Int)) (a3 - Int.toNat (n : Int)) h5 ∧ b0 a4 (Int.toNat (a0 : Int) - Int.toNat (n : Int)) (a3 - Int.toNat (n : Int)) h5 < b0 a7 a0 a3 h2))) ∧ ((a8 == 32) = false → (I4 a4 (Int.toNat (a0 : Int) - Int.toNat (n : Int)) (a3 - Int.toNat (n : Int)) h4 ∧ b0 a4 (Int.toNat (a0 : Int) - Int.toNat (n : Int)) (a3 - Int.toNat (n : Int)) h4 < b0 a7 a0 a3 h2))))))))))) ∧ ((decide ((a0 : Int) > 0)) = false → R (.tuple #[]) h2))))))) :
  HC Try.prog 63 #[(ptr a1 a2), (.slice b a6 b1)] h R := by
 refine hc_of (args := [(ptr a1 a2), (.slice b a6 b1)]) Try.func63 rfl Try.ntmps63 (Nat.le_of_ble_eq_true rfl) ?_
 refine xs (xs (xr ?_))
 refine lv rfl rfl (vm rfl) (lv rfl rfl (v := (.bool false)) (hv_ptrNil TyTD.up107 rfl rfl) ?_)
 refine ln (qn ?_)
 refine xc (b := false) rfl (fun hb => by cases hb) (fun _ => ?_)
 refine xi (qn (xs (xr ?_)))
 refine lv rfl rfl (vm rfl) (lv rfl rfl (v := (ptr a1 a2)) (hv_nil rfl) (lv rfl rfl (v := (ptr a1 (a2 + 38))) (vf TyTD.fld123_4 (b := a1) (o := a2) rfl) ?_))
 obtain ⟨x, c5, H⟩ := H
 refine lv rfl rfl (vl TyTD.agg31 rfl c5) (lv rfl rfl (vm rfl) (lv rfl rfl (v := (.int .i64 (a6 : Int))) (hv_len (n := a6) TyTD.u53 rfl) (lv rfl rfl (v := (.int .u64 (IntKind.u64.wrap (a6 : Int)))) (hv_convInt TyTD.u3 TyTD.u31 rfl) (lv rfl rfl (vr rfl rfl rfl) (lv rfl rfl (v := (ptr a1 a2)) (hv_nil rfl) ?_)))))
 refine lv rfl rfl (v := (ptr a1 (a2 + 38))) (vf TyTD.fld123_4 (b := a1) (o := a2) rfl) ?_
 obtain ⟨c8, H⟩ := H
 refine lp rfl rfl (hn_store (v := (.int .u64 (IntKind.u64.wrap (x + (IntKind.u64.wrap (a6 : Int)))))) rfl rfl TyTD.sz31 rfl c8 ?_)
 intro h1 c7
 replace H := H h1 c7
 refine ln (qn (xb ?_))
 obtain ⟨I4, b0, d0, c9⟩ := H
 refine xl (σ := Option Addr × Nat × Nat) (fun s => [(0, (ptr a1 a2)), (1, (.slice s.1 s.2.1 s.2.2))]) (fun s h' => I4 s.1 s.2.1 s.2.2 h' ∧ True) (fun s h' => b0 s.1 s.2.1 s.2.2 h') (b, a6, b1) ⟨d0, trivial⟩ (hc rfl (hc rfl hn)) ?_
 rintro ⟨a7, a0, a3⟩ ρ h2 ⟨c6, -⟩
 have H := c9 a7 a0 a3 h2 c6
 refine xs (xs (xr ?_))
 refine lv rfl rfl (vm rfl) (lv rfl rfl (v := (.int .i64 (a0 : Int))) (hv_len (n := a0) TyTD.u53 rfl) (lv rfl rfl (vr rfl rfl rfl) ?_))
 refine ln (qn ?_)
 refine xc (b := decide ((a0 : Int) > 0)) rfl (fun b3 => ?_) (fun b3 => ?_)
 ·replace H := H.1 b3
  refine xi (qn (xb (xs ?_)))
  refine hx_draw TyTD.mixed [.pure, .pure, .pure, .pure, .pure, .pure, .read, .pure, .pure, .wild, .pure] [0, 1, 2, 3, 4, 5, 6, 7, 8, 9, 10] (by kernel_rfl) ?_
  refine pp (i := 0) rfl (wanted_0 rfl) rfl (ptr a1 a2) (fun _ => vm rfl) ?_
  refine pp (i := 1) rfl (wanted_0 rfl) rfl (ptr a1 a2) (fun _ => hv_nil rfl) ?_
  refine pp (i := 2) rfl (wanted_0 rfl) rfl (ptr a1 (a2 + 5)) (fun _ => vf TyTD.fld123_2 (b := a1) (o := a2) rfl) ?_
  refine pp (i := 3) rfl (wanted_0 rfl) rfl (ptr a1 a2) (fun _ => vm rfl) ?_
  refine pp (i := 4) rfl (wanted_0 rfl) rfl (ptr a1 a2) (fun _ => hv_nil rfl) ?_
  refine pp (i := 5) rfl (wanted_0 rfl) rfl (ptr a1 (a2 + 37)) (fun _ => vf TyTD.fld123_3 (b := a1) (o := a2) rfl) ?_
  obtain ⟨a5, b5, H⟩ := H
  refine pr (i := 6) rfl (wanted_0 rfl) rfl (.int .i64 a5) (fun _ he => vl TyTD.agg3 rfl (Ext.cell he b5)) ?_
  obtain ⟨c0, b8, c1, H⟩ := H
  obtain ⟨sl, hq14⟩ : ∃ q, q = slA (some ⟨a1, a2 + 5, none⟩) (Int.toNat a5) 1 32 := ⟨_, rfl⟩
  replace H := H sl hq14
  refine pp (i := 7) rfl (wanted_0 rfl) rfl (.slice sl (Int.toNat (32 : Nat) - Int.toNat a5) (32 - Int.toNat a5)) (fun _ => hv_sliceA (l := a5) (r := (32 : Nat)) TyTD.u121 TyTD.sz5 rfl (sl_some rfl) sh_none c0 b8 c1 hq14) ?_
  refine pp (i := 8) rfl (wanted_0 rfl) rfl (.slice a7 a0 a3) (fun _ => vm rfl) ?_
  refine hp_wild (i := 9) rfl (wanted_0 rfl) rfl (hs_copy rfl rfl (HCopy.mono H ?_))
  rintro _ h3 ⟨n, rfl, H⟩
  refine pp (i := 10) rfl (wanted_0 rfl) rfl (.int .i64 (n : Int)) (fun _ => va rfl) ?_
  refine hp_nil ?_
  refine qn (xs (xr ?_))
  refine lv rfl rfl (vm rfl) (lv rfl rfl (v := (ptr a1 a2)) (hv_nil rfl) (lv rfl rfl (v := (ptr a1 (a2 + 37))) (vf TyTD.fld123_3 (b := a1) (o := a2) rfl) ?_))
  obtain ⟨a9, c2, H⟩ := H
  refine lv rfl rfl (vl TyTD.agg3 rfl c2) (lv rfl rfl (vm rfl) (lv rfl rfl (vr rfl rfl rfl) (lv rfl rfl (v := (ptr a1 a2)) (hv_nil rfl) (lv rfl rfl (v := (ptr a1 (a2 + 37))) (vf TyTD.fld123_3 (b := a1) (o := a2) rfl) ?_))))
  obtain ⟨b9, H⟩ := H
  refine lp rfl rfl (hn_store (v := (.int .i64 (IntKind.i64.wrap (a9 + (n : Int))))) rfl rfl TyTD.sz3 rfl b9 ?_)
  intro h4 c3
  replace H := H h4 c3
  refine ln (qn (xs (xr ?_)))
  refine lv rfl rfl (vm rfl) (lv rfl rfl (vm rfl) ?_)
  obtain ⟨b7, b6, c4, H⟩ := H
  obtain ⟨a4, hq21⟩ : ∃ q, q = slA a7 (Int.toNat (n : Int)) 1 a3 := ⟨_, rfl⟩
  replace H := H a4 hq21
  refine lv rfl rfl (v := (.slice a4 (Int.toNat (a0 : Int) - Int.toNat (n : Int)) (a3 - Int.toNat (n : Int)))) (hv_slice (l := (n : Int)) (r := (a0 : Int)) TyTD.u53 TyTD.sz5 rfl (sl_some rfl) sh_none b7 b6 c4 hq21) (lv rfl rfl (va rfl) ?_)
  refine ln (qn (xs (xr ?_)))
  refine lv rfl rfl (vm rfl) (lv rfl rfl (v := (ptr a1 a2)) (hv_nil rfl) (lv rfl rfl (v := (ptr a1 (a2 + 37))) (vf TyTD.fld123_3 (b := a1) (o := a2) rfl) ?_))
  obtain ⟨a8, b4, H⟩ := H
  refine lv rfl rfl (vl TyTD.agg3 rfl b4) (lv rfl rfl (vr rfl rfl rfl) ?_)
  refine ln (qn ?_)
  refine xc (b := a8 == 32) rfl (fun b2 => ?_) (fun b2 => ?_)
  ·replace H := H.1 b2
   refine xr ?_
   refine lv rfl rfl (vm rfl) ?_
   refine lp rfl rfl (sc TyTD.cb74 rfl (HC.mono H ?_))
   rintro _ h5 ⟨rfl, H⟩
   refine ln (bn (qn ?_))
   exact ⟨(a4, (Int.toNat (a0 : Int) - Int.toNat (n : Int)), (a3 - Int.toNat (n : Int))), ⟨⟨H.1, trivial⟩, H.2⟩, (hc rfl (hc rfl hn))⟩
  ·replace H := H.2 b2
   refine xi (bn (qn ?_))
   exact ⟨(a4, (Int.toNat (a0 : Int) - Int.toNat (n : Int)), (a3 - Int.toNat (n : Int))), ⟨⟨H.1, trivial⟩, H.2⟩, (hc rfl (hc rfl hn))⟩
 ·replace H := H.2 b3
  refine xe (qe (qe (bh ?_)))
  exact endQ_n _ (res_none Try.results63 ) H
theorem f64_sh (a2 : Nat) (a3 : Nat) (h : Heap) (R : Value → Heap → Prop)
  (H : (∃ x : Int, hcell h a2 a3 = some (.int .u64 x) ∧ (∃ A4 : Int → Heap → Prop, (∃ b7 : Int, hcell h a2 (a3 + 38) = some (.int .u64 b7) ∧ (((decide (b7 ≥ 32)) = true → HC Try.prog 75 #[(ptr a2 a3)] h (fun vv h2 => ∃ r : Int, vv = (.int .u64 r) ∧ (A4 r h2))) ∧ ((decide (b7 ≥ 32)) = false → (A4 (IntKind.u64.wrap (x + 2870177450012600261)) h)))) ∧ (∀ (b1 : Int) (h1 : Heap), A4 b1 h1 → (∃ b8 : Int, hcell h1 a2 (a3 + 38) = some (.int .u64 b8) ∧ (∃ b3 : Int, hcell h1 a2 (a3 + 37) = some (.int .i64 b3) ∧ (0 ≤ ((0 : Int) : Int) ∧ (0 : Int) ≤ (b3 : Int) ∧ (b3 : Int) ≤ (32 : Nat) ∧ ∀ sl : Option Addr, sl = slA (some ⟨a2, a3 + 5, none⟩) (Int.toNat 0) 1 32 → (∃ (c4 : Int → Option Addr → Nat → Nat → Prop) (c2 : Int → Option Addr → Nat → Nat → Nat), c4 (IntKind.u64.wrap (b1 + b8)) sl (Int.toNat b3 - Int.toNat 0) (32 - Int.toNat 0) ∧ (∀ (a9 : Int) (b : Option Addr) (a1 : Nat) (a4 : Nat), c4 a9 b a1 a4 → (((decide ((a1 : Int) ≥ 8)) = true → (∃ b0 : Int, HC Try.prog 78 #[(.slice b a1 a4), (.int .i64 8)] h1 (fun vv h' => vv = (.int .u64 b0) ∧ h' = h1) ∧ (∃ a8 : Int, HC Try.prog 77 #[(.int .u64 0), (.int .u64 b0)] h1 (fun vv h' => vv = (.int .u64 a8) ∧ h' = h1) ∧ (∃ a7 : Int, HC Try.prog 76 #[(.int .u64 (ibxor .u64 a9 a8)), (.int .i64 27)] h1 (fun vv h' => vv = (.int .u64 a7) ∧ h' = h1) ∧ (0 ≤ ((8 : Int) : Int) ∧ (8 : Int) ≤ (a1 : Int) ∧ (a1 : Int) ≤ (a4 : Int) ∧ ∀ a6 : Option Addr, a6 = slA b (Int.toNat 8) 1 a4 → (c4 (IntKind.u64.wrap ((IntKind.u64.wrap (a7 * 11400714785074694791)) + 9650029242287828579)) a6 (Int.toNat (a1 : Int) - Int.toNat 8) (a4 - Int.toNat 8) ∧ c2 (IntKind.u64.wrap ((IntKind.u64.wrap (a7 * 11400714785074694791)) + 9650029242287828579)) a6 (Int.toNat (a1 : Int) - Int.toNat 8) (a4 - Int.toNat 8) < c2 a9 b a1 a4)))))) ∧ ((decide ((a1 : Int) ≥ 8)) = false → (∃ c0 : Int, ∃ b9 : Option Addr, ∃ a5 b2 : Nat, (((decide ((a1 : Int) ≥ 4)) = true → (∃ b0 : Int, HC Try.prog 78 #[(.slice b a1 a4), (.int .i64 4)] h1 (fun vv h' => vv = (.int .u64 b0) ∧ h' = h1) ∧ (∃ a8 : Int, HC Try.prog 76 #[(.int .u64 (ibxor .u64 a9 (IntKind.u64.wrap (b0 * 11400714785074694791)))), (.int .i64 23)] h1 (fun vv h' => vv = (.int .u64 a8) ∧ h' = h1) ∧ (0 ≤ ((4 : Int) : Int) ∧ (4 : Int) ≤ (a1 : Int) ∧ (a1 : Int) ≤ (a4 : Int) ∧ ∀ a6 : Option Addr, a6 = slA b (Int.toNat 4) 1 a4 → (c0 = (IntKind.u64.wrap ((IntKind.u64.wrap (a8 * 14029467366897019727)) + 1609587929392839161)) ∧ b9 = a6 ∧ a5 = (Int.toNat (a1 : Int) - Int.toNat 4) ∧ b2 = (a4 - Int.toNat 4)))))) ∧ ((decide ((a1 : Int) ≥ 4)) = false → (c0 = a9 ∧ b9 = b ∧ a5 = a1 ∧ b2 = a4))) ∧ (∃ (c3 : Int → Int → Prop) (c1 : Int → Int → Nat), c3 c0 0 ∧ (∀ (a0 : Int) (v : Int), c3 a0 v → (((decide (v < (a5 : Int))) = true → (∃ b6 b5 : Nat, b9 = some ⟨b6, b5, none⟩ ∧ (0 : Int) ≤ v ∧ v < (a5 : Int) ∧ (∃ b4 : Int, hcell h1 b6 (b5 + (Int.toNat v) * 1) = some (.int .u8 b4) ∧ (∃ a7 : Int, HC Try.prog 76 #[(.int .u64 (ibxor .u64 a0 (IntKind.u64.wrap ((IntKind.u64.wrap b4) * 2870177450012600261)))), (.int .i64 11)] h1 (fun vv h' => vv = (.int .u64 a7) ∧ h' = h1) ∧ (c3 (IntKind.u64.wrap (a7 * 11400714785074694791)) (IntKind.i64.wrap (v + 1)) ∧ c1 (IntKind.u64.wrap (a7 * 11400714785074694791)) (IntKind.i64.wrap (v + 1)) < c1 a0 v))))) ∧ ((decide (v < (a5 : Int))) = false → R (.int .u64 (ibxor .u64 (IntKind.u64.wrap ((ibxor .u64 (IntKind.u64.wrap ((ibxor .u64 a0 (Int.fdiv a0 (2 ^ min (Int.toNat 33) 64))) * 14029467366897019727)) (Int.fdiv (IntKind.u64.wrap ((ibxor .u64 a0 (Int.fdiv a0 (2 ^ min (Int.toNat 33) 64))) * 14029467366897019727)) (2 ^ min (Int.toNat 29) 64))) * 1609587929392839161)) (Int.fdiv (IntKind.u64.wrap ((ibxor .u64 (IntKind.u64.wrap ((ibxor .u64 a0 (Int.fdiv a0 (2 ^ min (Int.toNat 33) 64))) * 14029467366897019727)) (Int.fdiv (IntKind.u64.wrap ((ibxor .u64 a0 (Int.fdiv a0 (2 ^ min (Int.toNat 33) 64))) * 14029467366897019727)) (2 ^ min (Int.toNat 29) 64))) * 1609587929392839161)) (2 ^ min (Int.toNat 32) 64)))) h1)))))))))))))))) :
  HC Try.prog 64 #[(ptr a2 a3)] h R := by
 refine hc_of (args := [(ptr a2 a3)]) Try.func64 rfl Try.ntmps64 (Nat.le_of_ble_eq_true rfl) ?_
 refine xs (xr ?_)
 refine lv rfl rfl (va rfl) ?_
 refine ln (qn (xs (xs (xr ?_))))
 refine lv rfl rfl (vm rfl) (lv rfl rfl (v := (.bool false)) (hv_ptrNil TyTD.up107 rfl rfl) ?_)
 refine ln (qn ?_)
 refine xc (b := false) rfl (fun hb => by cases hb) (fun _ => ?_)
 refine xi (qn (xs (xr ?_)))
 refine lv rfl rfl (vm rfl) (lv rfl rfl (v := (ptr a2 a3)) (hv_nil rfl) (lv rfl rfl (v := (ptr a2 a3)) (vf TyTD.fld123_0 (b := a2) (o := a3) rfl) ?_))
 obtain ⟨x, f8, H⟩ := H
 refine lv rfl rfl (vl TyTD.agg31 rfl f8) (lv rfl rfl (vr rfl rfl rfl) (lv rfl rfl (va rfl) ?_))
 refine ln (qn ?_)
 obtain ⟨A4, d2, d1⟩ := H
 refine xk (fun ρ h' => ∃ b1 : Int, (A4 b1 h' ∧ True) ∧ Has ρ [(0, (ptr a2 a3)), (3, (.int .u64 b1))]) ?_ ?_
 ·have H := d2; clear d2 d1
  refine xs (xr ?_)
  refine lv rfl rfl (vm rfl) (lv rfl rfl (v := (ptr a2 a3)) (hv_nil rfl) (lv rfl rfl (v := (ptr a2 (a3 + 38))) (vf TyTD.fld123_4 (b := a2) (o := a3) rfl) ?_))
  obtain ⟨b7, g1, H⟩ := H
  refine lv rfl rfl (vl TyTD.agg31 rfl g1) (lv rfl rfl (vr rfl rfl rfl) ?_)
  refine ln (qn ?_)
  refine xc (b := decide (b7 ≥ 32)) rfl (fun d0 => ?_) (fun d0 => ?_)
  ·replace H := H.1 d0
   refine xr ?_
   refine lv rfl rfl (vm rfl) ?_
   refine lp rfl rfl (sc TyTD.cb75 rfl (HC.mono H ?_))
   rintro _ h2 ⟨r, rfl, H⟩
   refine lv rfl rfl (va rfl) ?_
   refine ln (qn ?_)
   exact ⟨_, ⟨H, trivial⟩, (hc rfl (hc rfl hn))⟩
  ·replace H := H.2 d0
   refine xi (qn ?_)
   exact ⟨_, ⟨H, trivial⟩, (hc rfl (hc rfl hn))⟩
 ·rintro ρ h1 ⟨b1, ⟨g0, -⟩, hH⟩
  have H := d1 b1 h1 g0; clear d2 d1
  refine xh _ hH ?_
  refine xs (xr ?_)
  refine lv rfl rfl (vm rfl) (lv rfl rfl (vm rfl) (lv rfl rfl (v := (ptr a2 a3)) (hv_nil rfl) (lv rfl rfl (v := (ptr a2 (a3 + 38))) (vf TyTD.fld123_4 (b := a2) (o := a3) rfl) ?_)))
  obtain ⟨b8, f7, H⟩ := H
  refine lv rfl rfl (vl TyTD.agg31 rfl f7) (lv rfl rfl (vr rfl rfl rfl) (lv rfl rfl (va rfl) ?_))
  refine ln (qn (xs ?_))
  refine hx_draw TyTD.mixed [.pure, .pure, .pure, .pure, .pure, .pure, .read, .pure, .pure] [0, 1, 2, 3, 4, 5, 6, 7, 8] (by kernel_rfl) ?_
  refine pp (i := 0) rfl (wanted_0 rfl) rfl (ptr a2 a3) (fun _ => vm rfl) ?_
  refine pp (i := 1) rfl (wanted_0 rfl) rfl (ptr a2 a3) (fun _ => hv_nil rfl) ?_
  refine pp (i := 2) rfl (wanted_0 rfl) rfl (ptr a2 (a3 + 5)) (fun _ => vf TyTD.fld123_2 (b := a2) (o := a3) rfl) ?_
  refine pp (i := 3) rfl (wanted_0 rfl) rfl (ptr a2 a3) (fun _ => vm rfl) ?_
  refine pp (i := 4) rfl (wanted_0 rfl) rfl (ptr a2 a3) (fun _ => hv_nil rfl) ?_
  refine pp (i := 5) rfl (wanted_0 rfl) rfl (ptr a2 (a3 + 37)) (fun _ => vf TyTD.fld123_3 (b := a2) (o := a3) rfl) ?_
  obtain ⟨b3, g2, H⟩ := H
  refine pr (i := 6) rfl (wanted_0 rfl) rfl (.int .i64 b3) (fun _ he => vl TyTD.agg3 rfl (Ext.cell he g2)) ?_
  obtain ⟨e5, d7, e9, H⟩ := H
  obtain ⟨sl, hq13⟩ : ∃ q, q = slA (some ⟨a2, a3 + 5, none⟩) (Int.toNat 0) 1 32 := ⟨_, rfl⟩
  replace H := H sl hq13
  refine pp (i := 7) rfl (wanted_0 rfl) rfl (.slice sl (Int.toNat b3 - Int.toNat 0) (32 - Int.toNat 0)) (fun _ => hv_sliceA (l := 0) (r := b3) TyTD.u121 TyTD.sz5 rfl sl_none (sh_some rfl) e5 d7 e9 hq13) ?_
  refine pp (i := 8) rfl (wanted_0 rfl) rfl (.slice sl (Int.toNat b3 - Int.toNat 0) (32 - Int.toNat 0)) (fun _ => va rfl) ?_
  refine hp_nil ?_
  refine qn (xs (xb ?_))
  obtain ⟨c4, c2, e3, e6⟩ := H
  refine xl (σ := Int × Option Addr × Nat × Nat) (fun s => [(3, (.int .u64 s.1)), (4, (.slice s.2.1 s.2.2.1 s.2.2.2))]) (fun s h' => c4 s.1 s.2.1 s.2.2.1 s.2.2.2 ∧ h1 = h') (fun s _ => c2 s.1 s.2.1 s.2.2.1 s.2.2.2) (IntKind.u64.wrap (b1 + b8), sl, (Int.toNat b3 - Int.toNat 0), (32 - Int.toNat 0)) ⟨e3, rfl⟩ (hc rfl (hc rfl hn)) ?_
  rintro ⟨a9, b, a1, a4⟩ ρ _ ⟨d4, rfl⟩
  have H := e6 a9 b a1 a4 d4
  refine xs (xs (xr ?_))
  refine lv rfl rfl (vm rfl) (lv rfl rfl (v := (.int .i64 (a1 : Int))) (hv_len (n := a1) TyTD.u53 rfl) (lv rfl rfl (vr rfl rfl rfl) ?_))
  refine ln (qn ?_)
  refine xc (b := decide ((a1 : Int) ≥ 8)) rfl (fun c5 => ?_) (fun c5 => ?_)
  ·replace H := H.1 c5
   refine xi (qn (xs (xb (xr ?_))))
   refine lv rfl rfl (vm rfl) (lv rfl rfl (vm rfl) ?_)
   obtain ⟨b0, d9, H⟩ := H
   refine lv rfl rfl (hv_call TyTD.cb78 (vs := [(.slice b a1 a4), (.int .i64 8)]) rfl d9) ?_
   obtain ⟨a8, e4, H⟩ := H
   refine lv rfl rfl (hv_call TyTD.cb77 (vs := [(.int .u64 0), (.int .u64 b0)]) rfl e4) (lv rfl rfl (v := (.int .u64 (ibxor .u64 a9 a8))) (hv_bits rfl rfl rfl) ?_)
   obtain ⟨a7, d5, H⟩ := H
   refine lv rfl rfl (hv_call TyTD.cb76 (vs := [(.int .u64 (ibxor .u64 a9 a8)), (.int .i64 27)]) rfl d5) (lv rfl rfl (vr rfl rfl rfl) (lv rfl rfl (vr rfl rfl rfl) (lv rfl rfl (va rfl) ?_)))
   refine ln (bn (qn (xr ?_)))
   refine lv rfl rfl (vm rfl) ?_
   obtain ⟨f4, e2, d6, H⟩ := H
   obtain ⟨a6, hq26⟩ : ∃ q, q = slA b (Int.toNat 8) 1 a4 := ⟨_, rfl⟩
   replace H := H a6 hq26
   refine lv rfl rfl (v := (.slice a6 (Int.toNat (a1 : Int) - Int.toNat 8) (a4 - Int.toNat 8))) (hv_slice (l := 8) (r := (a1 : Int)) TyTD.u53 TyTD.sz5 rfl (sl_some rfl) sh_none f4 e2 d6 hq26) (lv rfl rfl (va rfl) ?_)
   refine ln (qn ?_)
   exact ⟨(IntKind.u64.wrap ((IntKind.u64.wrap (a7 * 11400714785074694791)) + 9650029242287828579), a6, (Int.toNat (a1 : Int) - Int.toNat 8), (a4 - Int.toNat 8)), ⟨⟨H.1, rfl⟩, H.2⟩, (hc rfl (hc rfl hn))⟩
  ·replace H := H.2 c5
   refine xe (qe (qe (bh (qn ?_))))
   obtain ⟨c0, b9, a5, b2, c9, c8⟩ := H
   refine xk (fun ρ h' => h1 = h' ∧ Has ρ [(3, (.int .u64 c0)), (4, (.slice b9 a5 b2))]) ?_ ?_
   ·have H := c9; clear c9 c8
    refine xs (xr ?_)
    refine lv rfl rfl (vm rfl) (lv rfl rfl (v := (.int .i64 (a1 : Int))) (hv_len (n := a1) TyTD.u53 rfl) (lv rfl rfl (vr rfl rfl rfl) ?_))
    refine ln (qn ?_)
    refine xc (b := decide ((a1 : Int) ≥ 4)) rfl (fun c6 => ?_) (fun c6 => ?_)
    ·replace H := H.1 c6
     refine xs (xr ?_)
     refine lv rfl rfl (vm rfl) (lv rfl rfl (vm rfl) ?_)
     obtain ⟨b0, e8, H⟩ := H
     refine lv rfl rfl (hv_call TyTD.cb78 (vs := [(.slice b a1 a4), (.int .i64 4)]) rfl e8) (lv rfl rfl (vr rfl rfl rfl) (lv rfl rfl (v := (.int .u64 (ibxor .u64 a9 (IntKind.u64.wrap (b0 * 11400714785074694791))))) (hv_bits rfl rfl rfl) ?_))
     obtain ⟨a8, f1, H⟩ := H
     refine lv rfl rfl (hv_call TyTD.cb76 (vs := [(.int .u64 (ibxor .u64 a9 (IntKind.u64.wrap (b0 * 11400714785074694791)))), (.int .i64 23)]) rfl f1) (lv rfl rfl (vr rfl rfl rfl) (lv rfl rfl (vr rfl rfl rfl) (lv rfl rfl (va rfl) ?_)))
     refine ln (qn (xr ?_))
     refine lv rfl rfl (vm rfl) ?_
     obtain ⟨d3, f3, f0, H⟩ := H
     obtain ⟨a6, hq35⟩ : ∃ q, q = slA b (Int.toNat 4) 1 a4 := ⟨_, rfl⟩
     replace H := H a6 hq35
     refine lv rfl rfl (v := (.slice a6 (Int.toNat (a1 : Int) - Int.toNat 4) (a4 - Int.toNat 4))) (hv_slice (l := 4) (r := (a1 : Int)) TyTD.u53 TyTD.sz5 rfl (sl_some rfl) sh_none d3 f3 f0 hq35) (lv rfl rfl (va rfl) ?_)
     refine ln (qn ?_)
     obtain ⟨rfl, rfl, rfl, rfl⟩ := H
     exact ⟨rfl, (hc rfl (hc rfl hn))⟩
    ·replace H := H.2 c6
     refine xi (qn ?_)
     obtain ⟨rfl, rfl, rfl, rfl⟩ := H
     exact ⟨rfl, (hc rfl (hc rfl hn))⟩
   ·have H := c8; clear c9 c8
    rintro ρ _ ⟨rfl, hH⟩
    refine xh _ hH ?_
    refine xs (xs (xr ?_))
    refine lv rfl rfl (vm rfl) (lv rfl rfl (v := (.int .i64 (a5 : Int))) (hv_len (n := a5) TyTD.u53 rfl) (lv rfl rfl (vm rfl) ?_))
    refine ln (qn (xb ?_))
    obtain ⟨c3, c1, d8, e0⟩ := H
    refine xl (σ := Int × Int) (fun s => [(3, (.int .u64 s.1)), (61, (.slice b9 a5 b2)), (62, (.int .i64 (a5 : Int))), (63, (.int .i64 s.2))]) (fun s h' => c3 s.1 s.2 ∧ h1 = h') (fun s _ => c1 s.1 s.2) (c0, 0) ⟨d8, rfl⟩ (hc rfl (hc rfl (hc rfl (hc rfl hn)))) ?_
    rintro ⟨a0, v⟩ ρ _ ⟨f6, rfl⟩
    have H := e0 a0 v f6
    refine xs (xr ?_)
    refine lv rfl rfl (vr rfl rfl rfl) ?_
    refine ln (qn (xs ?_))
    refine xc (b := decide (v < (a5 : Int))) rfl (fun c7 => ?_) (fun c7 => ?_)
    ·replace H := H.1 c7
     refine xi (qn (xs (xb (xs (xr ?_)))))
     obtain ⟨b6, b5, f9, e7, f5, Hq⟩ := H
     subst f9
     have H := Hq; clear Hq
     refine lv rfl rfl (v := (ptr b6 (b5 + (Int.toNat v) * 1))) (vi TyTD.el53 rfl rfl e7 f5) ?_
     obtain ⟨b4, e1, H⟩ := H
     refine lv rfl rfl (vl TyTD.agg5 rfl e1) (lv rfl rfl (va rfl) ?_)
     refine ln (qn (xr ?_))
     refine lv rfl rfl (vm rfl) (lv rfl rfl (vm rfl) (lv rfl rfl (v := (.int .u64 (IntKind.u64.wrap b4))) (hv_convInt TyTD.u5 TyTD.u31 rfl) (lv rfl rfl (vr rfl rfl rfl) (lv rfl rfl (v := (.int .u64 (ibxor .u64 a0 (IntKind.u64.wrap ((IntKind.u64.wrap b4) * 2870177450012600261))))) (hv_bits rfl rfl rfl) ?_))))
     obtain ⟨a7, f2, H⟩ := H
     refine lv rfl rfl (hv_call TyTD.cb76 (vs := [(.int .u64 (ibxor .u64 a0 (IntKind.u64.wrap ((IntKind.u64.wrap b4) * 2870177450012600261)))), (.int .i64 11)]) rfl f2) (lv rfl rfl (vr rfl rfl rfl) (lv rfl rfl (va rfl) ?_))
     refine ln (bn (qn (xr ?_)))
     refine lv rfl rfl (vr rfl rfl rfl) (lv rfl rfl (vm rfl) ?_)
     refine ln (qn ?_)
     exact ⟨(IntKind.u64.wrap (a7 * 11400714785074694791), IntKind.i64.wrap (v + 1)), ⟨⟨H.1, rfl⟩, H.2⟩, (hc rfl (hc rfl (hc rfl (hc rfl hn))))⟩
    ·replace H := H.2 c7
     refine xe (qe (qe (bh (qn (xs (xr ?_))))))
     refine lv rfl rfl (vm rfl) (lv rfl rfl (vm rfl) (lv rfl rfl (v := (.int .u64 (Int.fdiv a0 (2 ^ min (Int.toNat 33) 64)))) (hv_shift rfl rfl (by decide) rfl) (lv rfl rfl (v := (.int .u64 (ibxor .u64 a0 (Int.fdiv a0 (2 ^ min (Int.toNat 33) 64))))) (hv_bits rfl rfl rfl) (lv rfl rfl (vr rfl rfl rfl) (lv rfl rfl (va rfl) ?_)))))
     refine ln (qn (xs (xr ?_)))
     refine lv rfl rfl (vm rfl) (lv rfl rfl (vm rfl) (lv rfl rfl (v := (.int .u64 (Int.fdiv (IntKind.u64.wrap ((ibxor .u64 a0 (Int.fdiv a0 (2 ^ min (Int.toNat 33) 64))) * 14029467366897019727)) (2 ^ min (Int.toNat 29) 64)))) (hv_shift rfl rfl (by decide) rfl) (lv rfl rfl (v := (.int .u64 (ibxor .u64 (IntKind.u64.wrap ((ibxor .u64 a0 (Int.fdiv a0 (2 ^ min (Int.toNat 33) 64))) * 14029467366897019727)) (Int.fdiv (IntKind.u64.wrap ((ibxor .u64 a0 (Int.fdiv a0 (2 ^ min (Int.toNat 33) 64))) * 14029467366897019727)) (2 ^ min (Int.toNat 29) 64))))) (hv_bits rfl rfl rfl) (lv rfl rfl (vr rfl rfl rfl) (lv rfl rfl (va rfl) ?_)))))
     refine ln (qn (xs (xr ?_)))
     refine lv rfl rfl (vm rfl) (lv rfl rfl (vm rfl) (lv rfl rfl (v := (.int .u64 (Int.fdiv (IntKind.u64.wrap ((ibxor .u64 (IntKind.u64.wrap ((ibxor .u64 a0 (Int.fdiv a0 (2 ^ min (Int.toNat 33) 64))) * 14029467366897019727)) (Int.fdiv (IntKind.u64.wrap ((ibxor .u64 a0 (Int.fdiv a0 (2 ^ min (Int.toNat 33) 64))) * 14029467366897019727)) (2 ^ min (Int.toNat 29) 64))) * 1609587929392839161)) (2 ^ min (Int.toNat 32) 64)))) (hv_shift rfl rfl (by decide) rfl) (lv rfl rfl (v := (.int .u64 (ibxor .u64 (IntKind.u64.wrap ((ibxor .u64 (IntKind.u64.wrap ((ibxor .u64 a0 (Int.fdiv a0 (2 ^ min (Int.toNat 33) 64))) * 14029467366897019727)) (Int.fdiv (IntKind.u64.wrap ((ibxor .u64 a0 (Int.fdiv a0 (2 ^ min (Int.toNat 33) 64))) * 14029467366897019727)) (2 ^ min (Int.toNat 29) 64))) * 1609587929392839161)) (Int.fdiv (IntKind.u64.wrap ((ibxor .u64 (IntKind.u64.wrap ((ibxor .u64 a0 (Int.fdiv a0 (2 ^ min (Int.toNat 33) 64))) * 14029467366897019727)) (Int.fdiv (IntKind.u64.wrap ((ibxor .u64 a0 (Int.fdiv a0 (2 ^ min (Int.toNat 33) 64))) * 14029467366897019727)) (2 ^ min (Int.toNat 29) 64))) * 1609587929392839161)) (2 ^ min (Int.toNat 32) 64))))) (hv_bits rfl rfl rfl) (lv rfl rfl (va rfl) ?_))))
     refine ln (qn (xt ?_))
     exact endQ_ret _ (res_one Try.results64 (rv_tmp rfl)) H
theorem f74_sh (a0 : Nat) (a1 : Nat) (h : Heap) (R : Value → Heap → Prop)
  (H : (∃ (I1 : Int → Heap → Prop) (a3 : Int → Heap → Nat), I1 0 h ∧ (∀ (v : Int) (h1 : Heap), I1 v h1 → (((decide (v < 4)) = true → ((0 : Int) ≤ v ∧ (v : Int) < 4 ∧ (∃ x : Int, hcell h1 a0 ((a1 + 1) + (Int.toNat v) * 1) = some (.int .u64 x) ∧ (0 ≤ (IntKind.i64.wrap (8 * v) : Int) ∧ IntKind.i64.wrap (8 * v) ≤ ((32 : Nat) : Int) ∧ ((32 : Nat) : Int) ≤ (32 : Nat) ∧ ∀ sl : Option Addr, sl = slA (some ⟨a0, a1 + 5, none⟩) (Int.toNat (IntKind.i64.wrap (8 * v))) 1 32 → (∃ r : Int, (∀ h4, Ext h1 h4 → HC Try.prog 78 #[(.slice sl (Int.toNat (32 : Nat) - Int.toNat (IntKind.i64.wrap (8 * v))) (32 - Int.toNat (IntKind.i64.wrap (8 * v)))), (.int .i64 8)] h4 (fun vv h' => vv = (.int .u64 r) ∧ h' = h4)) ∧ (∃ a2 : Int, (∀ h3, Ext h1 h3 → HC Try.prog 77 #[(.int .u64 x), (.int .u64 r)] h3 (fun vv h' => vv = (.int .u64 a2) ∧ h' = h3)) ∧ ((0 : Int) ≤ v ∧ (v : Int) < 4 ∧ (HW h1 a0 ((a1 + 1) + (Int.toNat v) * 1) ∧ ∀ h2, h2 = hset h1 a0 ((a1 + 1) + (Int.toNat v) * 1) (.int .u64 a2) → (I1 (IntKind.i64.wrap (v + 1)) h2 ∧ a3 (IntKind.i64.wrap (v + 1)) h2 < a3 v h1))))))))) ∧ ((decide (v < 4)) = false → (HW h1 a0 (a1 + 37) ∧ ∀ h5, h5 = hset h1 a0 (a1 + 37) (.int .i64 0) → R (.tuple #[]) h5)))))) :
  HC Try.prog 74 #[(ptr a0 a1)] h R := by
 refine hc_of (args := [(ptr a0 a1)]) Try.func74 rfl Try.ntmps74 (Nat.le_of_ble_eq_true rfl) ?_
 refine xs (xs (xr ?_))
 refine lv rfl rfl (vm rfl) ?_
 refine ln (qn (xb ?_))
 obtain ⟨I1, a3, c0, b7⟩ := H
 refine xl (σ := Int) (fun s => [(0, (ptr a0 a1)), (3, (.int .i64 s))]) (fun s h' => I1 s h' ∧ True) (fun s h' => a3 s h') 0 ⟨c0, trivial⟩ (hc rfl (hc rfl hn)) ?_
 rintro v ρ h1 ⟨b8, -⟩
 have H := b7 v h1 b8
 refine xs (xr ?_)
 refine lv rfl rfl (vr rfl rfl rfl) ?_
 refine ln (qn (xs ?_))
 refine xc (b := decide (v < 4)) rfl (fun a4 => ?_) (fun a4 => ?_)
 ·replace H := H.1 a4
  refine xi (qn (xs (xb (xs (xr ?_)))))
  refine lv rfl rfl (vm rfl) (lv rfl rfl (va rfl) ?_)
  refine ln (qn ?_)
  refine hx_draw TyTD.mixed [.pure, .pure, .pure, .pure, .pure, .pure, .pure, .read, .pure, .pure, .pure, .pure, .pure, .pure, .read, .read, .pure, .pure, .pure, .wild] [0, 1, 2, 3, 4, 5, 6, 7, 8, 9, 10, 11, 12, 13, 14, 15, 16, 17, 18, 19] (by kernel_rfl) ?_
  refine pp (i := 0) rfl (wanted_0 rfl) rfl (ptr a0 a1) (fun _ => vm rfl) ?_
  refine pp (i := 1) rfl (wanted_0 rfl) rfl (.int .i64 v) (fun _ => vm rfl) ?_
  refine pp (i := 2) rfl (wanted_0 rfl) rfl (ptr a0 a1) (fun _ => vm rfl) ?_
  refine pp (i := 3) rfl (wanted_0 rfl) rfl (.int .i64 v) (fun _ => vm rfl) ?_
  refine pp (i := 4) rfl (wanted_0 rfl) rfl (ptr a0 a1) (fun _ => hv_nil rfl) ?_
  refine pp (i := 5) rfl (wanted_0 rfl) rfl (ptr a0 (a1 + 1)) (fun _ => vf TyTD.fld123_1 (b := a0) (o := a1) rfl) ?_
  obtain ⟨b6, c1, H⟩ := H
  refine pp (i := 6) rfl (wanted_0 rfl) rfl (ptr a0 ((a1 + 1) + (Int.toNat v) * 1)) (fun _ => hv_indexA TyTD.ea111 (b := a0) (o := a1 + 1) rfl rfl b6 c1) ?_
  obtain ⟨x, b9, H⟩ := H
  refine pr (i := 7) rfl (wanted_0 rfl) rfl (.int .u64 x) (fun _ he => vl TyTD.agg31 rfl (Ext.cell he b9)) ?_
  refine pp (i := 8) rfl (wanted_0 rfl) rfl (ptr a0 a1) (fun _ => vm rfl) ?_
  refine pp (i := 9) rfl (wanted_0 rfl) rfl (ptr a0 a1) (fun _ => hv_nil rfl) ?_
  refine pp (i := 10) rfl (wanted_0 rfl) rfl (ptr a0 (a1 + 5)) (fun _ => vf TyTD.fld123_2 (b := a0) (o := a1) rfl) ?_
  refine pp (i := 11) rfl (wanted_0 rfl) rfl (.int .i64 v) (fun _ => vm rfl) ?_
  refine pp (i := 12) rfl (wanted_0 rfl) rfl (.int .i64 (IntKind.i64.wrap (8 * v))) (fun _ => vr rfl rfl rfl) ?_
  obtain ⟨a7, b4, b1, H⟩ := H
  obtain ⟨sl, hq13⟩ : ∃ q, q = slA (some ⟨a0, a1 + 5, none⟩) (Int.toNat (IntKind.i64.wrap (8 * v))) 1 32 := ⟨_, rfl⟩
  replace H := H sl hq13
  refine pp (i := 13) rfl (wanted_0 rfl) rfl (.slice sl (Int.toNat (32 : Nat) - Int.toNat (IntKind.i64.wrap (8 * v))) (32 - Int.toNat (IntKind.i64.wrap (8 * v)))) (fun _ => hv_sliceA (l := IntKind.i64.wrap (8 * v)) (r := (32 : Nat)) TyTD.u121 TyTD.sz5 rfl (sl_some rfl) sh_none a7 b4 b1 hq13) ?_
  obtain ⟨r, b0, H⟩ := H
  refine pr (i := 14) rfl (wanted_0 rfl) rfl (.int .u64 r) (fun _ he => hv_call TyTD.cb78 (vs := [(.slice sl (Int.toNat (32 : Nat) - Int.toNat (IntKind.i64.wrap (8 * v))) (32 - Int.toNat (IntKind.i64.wrap (8 * v)))), (.int .i64 8)]) rfl (b0 _ he)) ?_
  obtain ⟨a2, a8, H⟩ := H
  refine pr (i := 15) rfl (wanted_0 rfl) rfl (.int .u64 a2) (fun _ he => hv_call TyTD.cb77 (vs := [(.int .u64 x), (.int .u64 r)]) rfl (a8 _ he)) ?_
  refine pp (i := 16) rfl (wanted_0 rfl) rfl (ptr a0 a1) (fun _ => hv_nil rfl) ?_
  refine pp (i := 17) rfl (wanted_0 rfl) rfl (ptr a0 (a1 + 1)) (fun _ => vf TyTD.fld123_1 (b := a0) (o := a1) rfl) ?_
  obtain ⟨a5, b5, H⟩ := H
  refine pp (i := 18) rfl (wanted_0 rfl) rfl (ptr a0 ((a1 + 1) + (Int.toNat v) * 1)) (fun _ => hv_indexA TyTD.ea111 (b := a0) (o := a1 + 1) rfl rfl a5 b5) ?_
  obtain ⟨b2, H⟩ := H
  refine hp_wild (i := 19) rfl (wanted_0 rfl) rfl (hn_store (v := (.int .u64 a2)) rfl rfl TyTD.sz31 rfl b2 ?_)
  intro h2 a6
  replace H := H h2 a6
  refine hp_nil ?_
  refine bn (qn (xr ?_))
  refine lv rfl rfl (vr rfl rfl rfl) (lv rfl rfl (vm rfl) ?_)
  refine ln (qn ?_)
  exact ⟨IntKind.i64.wrap (v + 1), ⟨⟨H.1, trivial⟩, H.2⟩, (hc rfl (hc rfl hn))⟩
 ·replace H := H.2 a4
  refine xe (qe (qe (bh (qn (xr ?_)))))
  refine lv rfl rfl (vm rfl) (lv rfl rfl (v := (ptr a0 a1)) (hv_nil rfl) (lv rfl rfl (v := (ptr a0 (a1 + 37))) (vf TyTD.fld123_3 (b := a0) (o := a1) rfl) ?_))
  obtain ⟨a9, H⟩ := H
  refine lp rfl rfl (hn_store (v := (.int .i64 0)) rfl rfl TyTD.sz3 rfl a9 ?_)
  intro h5 b3
  replace H := H h5 b3
  refine ln ?_
  exact endQ_n _ (res_none Try.results74 ) H
theorem f75_sh (a1 : Nat) (a2 : Nat) (h : Heap) (R : Value → Heap → Prop)
  (H : (∃ (I1 : Int → Int → Prop) (a9 : Int → Int → Nat), I1 0 0 ∧ (∀ (a4 : Int) (v : Int), I1 a4 v → (((decide (v < 4)) = true → ((0 : Int) ≤ v ∧ v < (4 : Nat) ∧ ∃ x : Int, (#[(.int .i64 1), (.int .i64 7), (.int .i64 12), (.int .i64 18)] : Array Value)[Int.toNat v]? = some (.int .i64 x) ∧ ((0 : Int) ≤ v ∧ (v : Int) < 4 ∧ (∃ a7 : Int, hcell h a1 ((a2 + 1) + (Int.toNat v) * 1) = some (.int .u64 a7) ∧ (∃ r : Int, HC Try.prog 76 #[(.int .u64 a7), (.int .i64 x)] h (fun vv h' => vv = (.int .u64 r) ∧ h' = h) ∧ (I1 (IntKind.u64.wrap (a4 + r)) (IntKind.i64.wrap (v + 1)) ∧ a9 (IntKind.u64.wrap (a4 + r)) (IntKind.i64.wrap (v + 1)) < a9 a4 v)))))) ∧ ((decide (v < 4)) = false → (∃ x0 x1 x2 x3 : Int, hcell h a1 (a2 + 1) = some (.int .u64 x0) ∧ hcell h a1 (a2 + 2) = some (.int .u64 x1) ∧ hcell h a1 (a2 + 3) = some (.int .u64 x2) ∧ hcell h a1 (a2 + 4) = some (.int .u64 x3) ∧ (∃ (a6 : Int → Int → Prop) (a5 : Int → Int → Nat), a6 a4 0 ∧ (∀ (a0 : Int) (a3 : Int), a6 a0 a3 → (((decide (a3 < 4)) = true → ((0 : Int) ≤ a3 ∧ a3 < (4 : Nat) ∧ ∃ x : Int, (#[(.int .u64 x0), (.int .u64 x1), (.int .u64 x2), (.int .u64 x3)] : Array Value)[Int.toNat a3]? = some (.int .u64 x) ∧ (∃ r : Int, HC Try.prog 77 #[(.int .u64 0), (.int .u64 x)] h (fun vv h' => vv = (.int .u64 r) ∧ h' = h) ∧ (a6 (IntKind.u64.wrap ((IntKind.u64.wrap ((ibxor .u64 a0 r) * 11400714785074694791)) + 9650029242287828579)) (IntKind.i64.wrap (a3 + 1)) ∧ a5 (IntKind.u64.wrap ((IntKind.u64.wrap ((ibxor .u64 a0 r) * 11400714785074694791)) + 9650029242287828579)) (IntKind.i64.wrap (a3 + 1)) < a5 a0 a3)))) ∧ ((decide (a3 < 4)) = false → R (.int .u64 a0) h)))))))))) :
  HC Try.prog 75 #[(ptr a1 a2)] h R := by
 refine hc_of (args := [(ptr a1 a2)]) Try.func75 rfl Try.ntmps75 (Nat.le_of_ble_eq_true rfl) ?_
 refine xs (xr ?_)
 refine lv rfl rfl (va rfl) ?_
 refine ln (qn (xs (xr ?_)))
 refine lv rfl rfl (va rfl) ?_
 refine ln (qn (xs (xs (xr ?_))))
 refine lv rfl rfl (v := (.agg #[(.int .i64 1), (.int .i64 7), (.int .i64 12), (.int .i64 18)])) (hv_buildA (vs := [(0, (.int .i64 1)), (1, (.int .i64 7)), (2, (.int .i64 12)), (3, (.int .i64 18))]) (cs := #[(.int .i64 1), (.int .i64 7), (.int .i64 12), (.int .i64 18)]) TyTD.u137 TyTD.z137 TyTD.sz3 rfl (by kernel_rfl)) (lv rfl rfl (vm rfl) ?_)
 refine ln (qn (xb ?_))
 obtain ⟨I1, a9, d0, c7⟩ := H
 refine xl (σ := Int × Int) (fun s => [(0, (ptr a1 a2)), (3, (.int .u64 s.1)), (8, (.agg #[(.int .i64 1), (.int .i64 7), (.int .i64 12), (.int .i64 18)])), (9, (.int .i64 s.2))]) (fun s h' => I1 s.1 s.2 ∧ h = h') (fun s _ => a9 s.1 s.2) (0, 0) ⟨d0, rfl⟩ (hc rfl (hc rfl (hc rfl (hc rfl hn)))) ?_
 rintro ⟨a4, v⟩ ρ _ ⟨c9, rfl⟩
 have H := c7 a4 v c9
 refine xs (xr ?_)
 refine lv rfl rfl (vr rfl rfl rfl) ?_
 refine ln (qn (xs ?_))
 refine xc (b := decide (v < 4)) rfl (fun b0 => ?_) (fun b0 => ?_)
 ·replace H := H.1 b0
  refine xi (qn (xs (xb (xs (xr ?_)))))
  refine lv rfl rfl (vm rfl) ?_
  obtain ⟨c6, d1, x, c8, H⟩ := H
  refine lv rfl rfl (v := (.int .i64 x)) (hv_indexV TyTD.u137 TyTD.sz3 TyTD.agg3 rfl rfl c6 d1 c8) (lv rfl rfl (va rfl) (lv rfl rfl (va rfl) ?_))
  refine ln (qn (xr ?_))
  refine lv rfl rfl (vm rfl) (lv rfl rfl (vm rfl) (lv rfl rfl (vm rfl) (lv rfl rfl (v := (ptr a1 a2)) (hv_nil rfl) (lv rfl rfl (v := (ptr a1 (a2 + 1))) (vf TyTD.fld123_1 (b := a1) (o := a2) rfl) ?_))))
  obtain ⟨b1, c5, H⟩ := H
  refine lv rfl rfl (v := (ptr a1 ((a2 + 1) + (Int.toNat v) * 1))) (hv_indexA TyTD.ea111 (b := a1) (o := a2 + 1) rfl rfl b1 c5) ?_
  obtain ⟨a7, c0, H⟩ := H
  refine lv rfl rfl (vl TyTD.agg31 rfl c0) (lv rfl rfl (vm rfl) ?_)
  obtain ⟨r, b8, H⟩ := H
  refine lv rfl rfl (hv_call TyTD.cb76 (vs := [(.int .u64 a7), (.int .i64 x)]) rfl b8) (lv rfl rfl (vr rfl rfl rfl) (lv rfl rfl (va rfl) ?_))
  refine ln (bn (qn (xr ?_)))
  refine lv rfl rfl (vr rfl rfl rfl) (lv rfl rfl (vm rfl) ?_)
  refine ln (qn ?_)
  exact ⟨(IntKind.u64.wrap (a4 + r), IntKind.i64.wrap (v + 1)), ⟨⟨H.1, rfl⟩, H.2⟩, (hc rfl (hc rfl (hc rfl (hc rfl hn))))⟩
 ·replace H := H.2 b0
  refine xe (qe (qe (bh (qn (xs (xs (xr ?_)))))))
  refine lv rfl rfl (vm rfl) (lv rfl rfl (v := (ptr a1 a2)) (hv_nil rfl) (lv rfl rfl (v := (ptr a1 (a2 + 1))) (vf TyTD.fld123_1 (b := a1) (o := a2) rfl) ?_))
  obtain ⟨x0, x1, x2, x3, b5, c1, b7, b4, H⟩ := H
  refine lv rfl rfl (vL (vs := [(.int .u64 x0), (.int .u64 x1), (.int .u64 x2), (.int .u64 x3)]) TyTD.agg111 TyTD.sz111 rfl (cc b5 (cc c1 (cc b7 (cc b4 cn))))) (lv rfl rfl (vm rfl) ?_)
  refine ln (qn (xb ?_))
  obtain ⟨a6, a5, b9, b3⟩ := H
  refine xl (σ := Int × Int) (fun s => [(3, (.int .u64 s.1)), (27, (.agg #[(.int .u64 x0), (.int .u64 x1), (.int .u64 x2), (.int .u64 x3)])), (28, (.int .i64 s.2))]) (fun s h' => a6 s.1 s.2 ∧ h = h') (fun s _ => a5 s.1 s.2) (a4, 0) ⟨b9, rfl⟩ (hc rfl (hc rfl (hc rfl hn))) ?_
  rintro ⟨a0, a3⟩ ρ _ ⟨b2, rfl⟩
  have H := b3 a0 a3 b2
  refine xs (xr ?_)
  refine lv rfl rfl (vr rfl rfl rfl) ?_
  refine ln (qn (xs ?_))
  refine xc (b := decide (a3 < 4)) rfl (fun a8 => ?_) (fun a8 => ?_)
  ·replace H := H.1 a8
   refine xi (qn (xs (xb (xs (xr ?_)))))
   obtain ⟨c2, c3, x, b6, H⟩ := H
   refine lv rfl rfl (v := (.int .u64 x)) (hv_indexV TyTD.u111 TyTD.sz31 TyTD.agg31 rfl rfl c2 c3 b6) (lv rfl rfl (va rfl) ?_)
   refine ln (qn (xr ?_))
   refine lv rfl rfl (vm rfl) (lv rfl rfl (vm rfl) ?_)
   obtain ⟨r, c4, H⟩ := H
   refine lv rfl rfl (hv_call TyTD.cb77 (vs := [(.int .u64 0), (.int .u64 x)]) rfl c4) (lv rfl rfl (v := (.int .u64 (ibxor .u64 a0 r))) (hv_bits rfl rfl rfl) (lv rfl rfl (vr rfl rfl rfl) (lv rfl rfl (vr rfl rfl rfl) (lv rfl rfl (va rfl) ?_))))
   refine ln (bn (qn (xr ?_)))
   refine lv rfl rfl (vr rfl rfl rfl) (lv rfl rfl (vm rfl) ?_)
   refine ln (qn ?_)
   exact ⟨(IntKind.u64.wrap ((IntKind.u64.wrap ((ibxor .u64 a0 r) * 11400714785074694791)) + 9650029242287828579), IntKind.i64.wrap (a3 + 1)), ⟨⟨H.1, rfl⟩, H.2⟩, (hc rfl (hc rfl (hc rfl hn)))⟩
  ·replace H := H.2 a8
   refine xe (qe (qe (bh (qn (xs (xr ?_))))))
   refine lv rfl rfl (vm rfl) (lv rfl rfl (va rfl) ?_)
   refine ln (qn (xt ?_))
   exact endQ_ret _ (res_one Try.results75 (rv_tmp rfl)) H
theorem f50_sh (a0 : Int) (b : Option Addr) (a1 : Nat) (a2 : Nat) (h : Heap) (R : Value → Heap → Prop)
  (H : HC Try.prog 62 #[(.int .u64 a0)] h (fun vv h1 => ∃ r : Option Addr, vv = (.pointer r) ∧ HC Try.prog 63 #[(.pointer r), (.slice b a1 a2)] h1 (fun vv h2 => vv = (.tuple #[]) ∧ HC Try.prog 64 #[(.pointer r)] h2 (fun vv h3 => ∃ a3 : Int, vv = (.int .u64 a3) ∧ R (.int .u64 a3) h3)))) :
  HC Try.prog 50 #[(.int .u64 a0), (.slice b a1 a2)] h R := by
 refine hc_of (args := [(.int .u64 a0), (.slice b a1 a2)]) Try.func50 rfl Try.ntmps50 (Nat.le_of_ble_eq_true rfl) ?_
 refine xs (xr ?_)
 refine lv rfl rfl (va rfl) ?_
 refine ln (qn (xs (xr ?_)))
 refine lv rfl rfl (vm rfl) ?_
 refine lp rfl rfl (sc TyTD.cb62 rfl (HC.mono H ?_))
 rintro _ h1 ⟨r, rfl, H⟩
 refine lv rfl rfl (va rfl) ?_
 refine ln (qn (xs (xr ?_)))
 refine lv rfl rfl (vm rfl) (lv rfl rfl (vm rfl) ?_)
 refine lp rfl rfl (sc TyTD.cb63 rfl (HC.mono H ?_))
 rintro _ h2 ⟨rfl, H⟩
 refine ln (qn (xs (xr ?_)))
 refine lv rfl rfl (vm rfl) ?_
 refine lp rfl rfl (sc TyTD.cb64 rfl (HC.mono H ?_))
 rintro _ h3 ⟨a3, rfl, H⟩
 refine lv rfl rfl (va rfl) ?_
 refine ln (qn (xt ?_))
 exact endQ_ret _ (res_one Try.results50 (rv_tmp rfl)) H
theorem f34_sh (a1 : ByteArray) (h : Heap) (R : Value → Heap → Prop)
  (H : (a1.size < 9223372036854775807 ∧ ∀ nb a0 h1, nb = Array.size h → a1.size ≤ a0 → a0 ≤ 9223372036854775807 → h1 = Array.push h (.cells ((toL a1).map (Value.int .u8) ++ List.replicate (a0 - a1.size) (Value.int .u8 0)).toArray 5 (a0, a0 + 1)) → HC Try.prog 50 #[(.int .u64 0), (.slice (some ⟨nb, 0, none⟩) a1.size a0)] h1 (fun vv h2 => Ext h1 h2 ∧ ∃ r : Int, vv = (.int .u64 r) ∧ R (.int .u64 r) h2))) :
  HC Try.prog 34 #[(.string a1)] h R := by
 refine hc_of (args := [(.string a1)]) Try.func34 rfl Try.ntmps34 (Nat.le_of_ble_eq_true rfl) ?_
 refine xs (xr ?_)
 refine lv rfl rfl (va rfl) ?_
 refine ln (qn (xs (xr ?_)))
 refine lv rfl rfl (vm rfl) ?_
 obtain ⟨a6, H⟩ := H
 refine lp rfl rfl (hs_s2b TyTD.u9 TyTD.u53 TyTD.u5 rfl a6 ?_)
 intro nb a0 h1 a3 a5 a4 a2
 have a8 := ext_pushed_f36_sh a2
 replace H := H nb a0 h1 a3 a5 a4 a2
 refine lp rfl rfl (sc TyTD.cb50 rfl (HC.mono H ?_))
 rintro _ h2 ⟨a7, r, rfl, H⟩
 refine lv rfl rfl (va rfl) ?_
 refine ln (qn (xt ?_))
 exact endQ_ret _ (res_one Try.results34 (rv_tmp rfl)) H
theorem f36_sh (a1 : ByteArray) (h : Heap) (R : Value → Heap → Prop)
  (H : (a1.size < 9223372036854775807 ∧ ∀ nb a0 h1, nb = Array.size h → a1.size ≤ a0 → a0 ≤ 9223372036854775807 → h1 = Array.push h (.cells ((toL a1).map (Value.int .u8) ++ List.replicate (a0 - a1.size) (Value.int .u8 0)).toArray 5 (a0, a0 + 1)) → HC Try.prog 52 #[(.int .u64 0), (.slice (some ⟨nb, 0, none⟩) a1.size a0)] h1 (fun vv h2 => Ext h1 h2 ∧ ∃ r : Int, vv = (.int .u64 r) ∧ R (.int .u64 r) h2))) :
  HC Try.prog 36 #[(.string a1)] h R := by
 refine hc_of (args := [(.string a1)]) Try.func36 rfl Try.ntmps36 (Nat.le_of_ble_eq_true rfl) ?_
 refine xs (xr ?_)
 refine lv rfl rfl (va rfl) ?_
 refine ln (qn (xs (xr ?_)))
 refine lv rfl rfl (vm rfl) ?_
 obtain ⟨a6, H⟩ := H
 refine lp rfl rfl (hs_s2b TyTD.u9 TyTD.u53 TyTD.u5 rfl a6 ?_)
 intro nb a0 h1 a3 a5 a4 a2
 have a8 := ext_pushed_f36_sh a2
 replace H := H nb a0 h1 a3 a5 a4 a2
 refine lp rfl rfl (sc TyTD.cb52 rfl (HC.mono H ?_))
 rintro _ h2 ⟨a7, r, rfl, H⟩
 refine lv rfl rfl (va rfl) ?_
 refine ln (qn (xt ?_))
 exact endQ_ret _ (res_one Try.results36 (rv_tmp rfl)) H
end Go.Proofs.Ytcdpapdefdnknaa
namespace Go.Proofs.Ytcdpapdefdnknaa
namespace Cy
open Go
def U64 (x : Int) : Prop := 0 ≤ x ∧ x < 18446744073709551616
theorem wrapU (x : Int) : U64 (IntKind.u64.wrap x) := by
  unfold U64 IntKind.wrap
  simp only [IntKind.bits, IntKind.signed]
  constructor
  · simp; omega
  · simp; omega
theorem uW {x : Int} (h : U64 x) : IntKind.u64.wrap x = x := wu64 h.1 h.2
theorem uAdd (a b : Int) : IntKind.u64.wrap (IntKind.u64.wrap a + b) = IntKind.u64.wrap (a + b) := by
  simp [IntKind.wrap, IntKind.bits, IntKind.signed]
theorem bv64 {n : Int} (h : U64 n) : (BitVec.ofInt 64 n).toNat = n.toNat := by
  obtain ⟨h0, h1⟩ := h
  rw [BitVec.toNat_ofInt]
  have : n % ((2 : Nat) ^ 64 : Nat) = n := Int.emod_eq_of_lt h0 (by omega)
  rw [this]
theorem ibor_U (a b : Int) : U64 (ibor .u64 a b) := wrapU _
theorem ibxor_U (a b : Int) : U64 (ibxor .u64 a b) := wrapU _
theorem bor {a b : Int} (ha : U64 a) (hb : U64 b) : ibor .u64 a b = ((a.toNat ||| b.toNat : Nat) : Int) := by
  unfold ibor
  show IntKind.u64.wrap ((BitVec.ofInt 64 a ||| BitVec.ofInt 64 b).toNat : Int) = _
  have hl : (BitVec.ofInt 64 a ||| BitVec.ofInt 64 b).toNat < 2 ^ 64 := (BitVec.ofInt 64 a ||| BitVec.ofInt 64 b).isLt
  rw [uW ⟨by omega, by omega⟩, BitVec.toNat_or, bv64 ha, bv64 hb]
theorem band {a b : Int} (ha : U64 a) (hb : U64 b) : iband .u64 a b = ((a.toNat &&& b.toNat : Nat) : Int) := by
  unfold iband
  show IntKind.u64.wrap ((BitVec.ofInt 64 a &&& BitVec.ofInt 64 b).toNat : Int) = _
  have hl : (BitVec.ofInt 64 a &&& BitVec.ofInt 64 b).toNat < 2 ^ 64 := (BitVec.ofInt 64 a &&& BitVec.ofInt 64 b).isLt
  rw [uW ⟨by omega, by omega⟩, BitVec.toNat_and, bv64 ha, bv64 hb]
theorem or_low {n b : Int} (hn : U64 n) (hb : 0 ≤ b ∧ b < 256) : ibor .u64 (IntKind.u64.wrap (n * 256)) (IntKind.u64.wrap b) = IntKind.u64.wrap (IntKind.u64.wrap (n * 256) + IntKind.u64.wrap b) := by
  have hx := wrapU (n * 256)
  have hm : IntKind.u64.wrap (n * 256) % 256 = 0 := by
    simp [IntKind.wrap, IntKind.bits, IntKind.signed]
    try omega
  generalize IntKind.u64.wrap (n * 256) = x at *
  rw [uW (x := b) ⟨hb.1, by omega⟩]
  have hx0 := hx.1
  have hx1 := hx.2
  obtain ⟨m, rfl⟩ : ∃ m : Nat, x = ((2 ^ 8 * m : Nat) : Int) := ⟨(x / 256).toNat, by omega⟩
  obtain ⟨c, rfl⟩ : ∃ c : Nat, b = c := ⟨b.toNat, by omega⟩
  rw [bor hx ⟨by omega, by omega⟩, Int.toNat_natCast, Int.toNat_natCast, ← Nat.two_pow_add_eq_or_of_lt (by omega), uW ⟨by omega, by omega⟩]
  omega
def rol (k : Nat) (x : Int) : Int := ibor .u64 (IntKind.u64.wrap (x * 2 ^ k)) (Int.fdiv x (2 ^ (64 - k)))
def wd : List Int → Int
  | [] => 0
  | b :: t => IntKind.u64.wrap (IntKind.u64.wrap (wd t * 256) + IntKind.u64.wrap b)
theorem wd_U : ∀ L, U64 (wd L)
  | [] => ⟨by decide, by decide⟩
  | _ :: _ => wrapU _
def rnd (a w : Int) : Int := IntKind.u64.wrap (rol 31 (IntKind.u64.wrap (a + IntKind.u64.wrap (w * 14029467366897019727))) * 11400714785074694791)
structure V4 where
  a : Int
  b : Int
  c : Int
  d : Int
def V4.get (v : V4) : Nat → Int
  | 0 => v.a
  | 1 => v.b
  | 2 => v.c
  | _ => v.d
def V4.set (v : V4) : Nat → Int → V4
  | 0, x => { v with a := x }
  | 1, x => { v with b := x }
  | 2, x => { v with c := x }
  | _, x => { v with d := x }
def blkT (B : List Int) : Nat → V4 → V4
  | 0, v => v
  | i + 1, v => (blkT B i v).set i (rnd ((blkT B i v).get i) (wd ((B.drop (8 * i)).take 8)))
def ln : Nat → V4 → List Int → V4
  | 0, v, _ => v
  | q + 1, v, L => ln q (blkT (L.take 32) 4 v) (L.drop 32)
def v0 (s : Int) : V4 := ⟨IntKind.u64.wrap (IntKind.u64.wrap (s + 11400714785074694791) + 14029467366897019727), IntKind.u64.wrap (s + 14029467366897019727), s, IntKind.u64.wrap (s - 11400714785074694791)⟩
def rots (v : V4) : Int := IntKind.u64.wrap (IntKind.u64.wrap (IntKind.u64.wrap (rol 1 v.a + rol 7 v.b) + rol 12 v.c) + rol 18 v.d)
def mg1 (x y : Int) : Int := IntKind.u64.wrap (IntKind.u64.wrap (ibxor .u64 x (rnd 0 y) * 11400714785074694791) + 9650029242287828579)
def mgT (v : V4) : Nat → Int → Int
  | 0, x => x
  | i + 1, x => mg1 (mgT v i x) (v.get i)
def mg (v : V4) : Int := mgT v 4 (rots v)
def s8 (x w : Int) : Int := IntKind.u64.wrap (IntKind.u64.wrap (rol 27 (ibxor .u64 x (rnd 0 w)) * 11400714785074694791) + 9650029242287828579)
def t8 : Nat → Int → List Int → Int
  | 0, x, _ => x
  | n + 1, x, L => t8 n (s8 x (wd (L.take 8))) (L.drop 8)
def s4 (x w : Int) : Int := IntKind.u64.wrap (IntKind.u64.wrap (rol 23 (ibxor .u64 x (IntKind.u64.wrap (w * 11400714785074694791))) * 14029467366897019727) + 1609587929392839161)
def s1 (x b : Int) : Int := IntKind.u64.wrap (rol 11 (ibxor .u64 x (IntKind.u64.wrap (IntKind.u64.wrap b * 2870177450012600261))) * 11400714785074694791)
def fin1 (x : Int) : Int := IntKind.u64.wrap (ibxor .u64 x (Int.fdiv x (2 ^ 33)) * 14029467366897019727)
def fin2 (x : Int) : Int := IntKind.u64.wrap (ibxor .u64 x (Int.fdiv x (2 ^ 29)) * 1609587929392839161)
def fin (x : Int) : Int := ibxor .u64 (fin2 (fin1 x)) (Int.fdiv (fin2 (fin1 x)) (2 ^ 32))
def tl1 (x : Int) (L : List Int) : Int := fin (L.foldl s1 x)
def tl4 (x : Int) (L : List Int) : Int := if 4 ≤ L.length then tl1 (s4 x (wd (L.take 4))) (L.drop 4) else tl1 x L
def tl8 (x : Int) (L : List Int) : Int := tl4 (t8 (L.length / 8) x L) (L.drop (8 * (L.length / 8)))
def hL (s : Int) (L : List Int) : Int :=
  tl8 (IntKind.u64.wrap ((if 32 ≤ L.length then mg (ln (L.length / 32) (v0 s) L) else IntKind.u64.wrap (s + 2870177450012600261)) + IntKind.u64.wrap (L.length : Int))) (L.drop (32 * (L.length / 32)))
def mix (x : Int) : Int :=
  let y := IntKind.u64.wrap (ibxor .u64 x (Int.fdiv x (2 ^ 30)) * 13787848793156543929)
  let z := IntKind.u64.wrap (ibxor .u64 y (Int.fdiv y (2 ^ 27)) * 10723151780598845931)
  ibxor .u64 z (Int.fdiv z (2 ^ 31))
theorem ln_step {L : List Int} (h : 32 ≤ L.length) (v : V4) : ln (L.length / 32) v L = ln ((L.drop 32).length / 32) (blkT (L.take 32) 4 v) (L.drop 32) := by
  have : L.length / 32 = (L.drop 32).length / 32 + 1 := by rw [List.length_drop]; omega
  rw [this]; rfl
theorem tl8_step {L : List Int} (h : 8 ≤ L.length) (x : Int) : tl8 x L = tl8 (s8 x (wd (L.take 8))) (L.drop 8) := by
  unfold tl8
  have e : L.length / 8 = (L.drop 8).length / 8 + 1 := by rw [List.length_drop]; omega
  rw [e]
  simp only [t8]
  rw [List.drop_drop, show 8 * ((L.drop 8).length / 8 + 1) = 8 + 8 * ((L.drop 8).length / 8) by omega]
theorem tl8_small {L : List Int} (h : L.length < 8) (x : Int) : tl8 x L = tl4 x L := by
  unfold tl8
  have e : L.length / 8 = 0 := by omega
  rw [e]; rfl
section
variable {h : Heap}
theorem rol_r (k : Nat) (hk : k ≤ 63) (x : Int) (h : Heap) : HC Try.prog 68 #[.int .u64 x, .int .i64 k] h fun v h' => v = .int .u64 (rol k x) ∧ h' = h := by
  refine f68_sh _ _ _ _ ⟨by omega, ?_⟩
  rw [w64 (by omega) (by omega)]
  refine ⟨by omega, ?_, rfl⟩
  unfold rol
  rw [Int.toNat_natCast, Nat.min_eq_left (by omega), show (64 - (k : Int)).toNat = 64 - k by omega, Nat.min_eq_left (by omega)]
theorem and63 : ∀ k : Nat, k < 64 → iband .u64 (IntKind.u64.wrap k) 63 = k := fun k hk => by
  rw [uW ⟨by omega, by omega⟩, band ⟨by omega, by omega⟩ ⟨by decide, by decide⟩, Int.toNat_natCast, show (63 : Int).toNat = 2 ^ 6 - 1 from rfl, Nat.and_two_pow_sub_one_eq_mod, Nat.mod_eq_of_lt hk]
theorem rol_m (k : Nat) (hk : k ≤ 63) (x : Int) (h : Heap) : HC Try.prog 76 #[.int .u64 x, .int .i64 k] h fun v h' => v = .int .u64 (rol k x) ∧ h' = h := by
  refine f76_sh _ _ _ _ ?_
  rw [and63 k (by omega)]
  refine ⟨by omega, ?_⟩
  rw [wu64 (by omega) (by omega)]
  refine ⟨by omega, ?_, rfl⟩
  unfold rol
  rw [Int.toNat_natCast, Nat.min_eq_left (by omega), show (64 - (k : Int)).toNat = 64 - k by omega, Nat.min_eq_left (by omega)]
theorem rnd_r (a w : Int) (h : Heap) : HC Try.prog 66 #[.int .u64 a, .int .u64 w] h fun v h' => v = .int .u64 (rnd a w) ∧ h' = h :=
  f66_sh _ _ _ _ ⟨_, rol_r 31 (by decide) _ h, rfl, rfl⟩
theorem rnd_m (a w : Int) (h : Heap) : HC Try.prog 77 #[.int .u64 a, .int .u64 w] h fun v h' => v = .int .u64 (rnd a w) ∧ h' = h :=
  f77_sh _ _ _ _ ⟨_, rol_m 31 (by decide) _ h, rfl, rfl⟩
theorem mix_r (x : Int) (h : Heap) : HC Try.prog 65 #[.int .u64 x] h fun v h' => v = .int .u64 (mix x) ∧ h' = h := f65_sh _ _ _ ⟨rfl, rfl⟩
theorem mix_m (x : Int) (h : Heap) : HC Try.prog 61 #[.int .u64 x] h fun v h' => v = .int .u64 (mix x) ∧ h' = h := f61_sh _ _ _ ⟨rfl, rfl⟩
theorem cell_u8 {b o : Nat} {L : List Int} (hc : HCells h b o (L.map (Value.int .u8))) {i : Nat} (hi : i < L.length) : hcell h b (o + i) = some (.int .u8 L[i]) :=
  hc.get (by rw [List.getElem?_map, List.getElem?_eq_getElem hi]; rfl)
theorem word_r {b o n c at_ : Nat} {L : List Int} {m : Int} (hm : m = L.length) (hc : HCells h b (o + at_) (L.map (Value.int .u8))) (hn : at_ + L.length ≤ n) (hs : n ≤ 4611686018427387904) : HC Try.prog 67 #[.slice (some ⟨b, o, none⟩) n c, .int .i64 at_, .int .i64 m] h fun v h' => v = .int .u64 (wd L) ∧ h' = h := by
  subst hm
  refine f67_sh _ _ _ _ _ _ _ ⟨fun x i => ∃ j : Nat, i = (j : Int) - 1 ∧ j ≤ L.length ∧ x = wd (L.drop j), fun _ i => (i + 1).toNat, ⟨L.length, by rw [w64 (by omega) (by omega)], Nat.le_refl _, by rw [List.drop_length]; rfl⟩, ?_⟩
  rintro _ _ ⟨j, rfl, hj, rfl⟩
  refine ⟨fun e => ?_, fun e => ?_⟩
  · have := of_decide_eq_true e
    obtain ⟨i, rfl⟩ : ∃ i, j = i + 1 := ⟨j - 1, by omega⟩
    rw [w64 (x := (at_ : Int) + (((i + 1 : Nat) : Int) - 1)) (by omega) (by omega), w64 (by omega) (by omega)]
    refine ⟨b, o, rfl, by omega, by omega, L[i], ?_, ⟨i, by omega, by omega, ?_⟩, by show Int.toNat _ < Int.toNat _; omega⟩
    · have := cell_u8 hc (i := i) (by omega)
      rw [show o + ((at_ : Int) + (((i + 1 : Nat) : Int) - 1)).toNat * 1 = o + at_ + i by omega]; exact this
    · rw [List.drop_eq_getElem_cons (i := i) (by omega)]; rfl
  · have := of_decide_eq_false e
    have : j = 0 := by omega
    subst this; exact ⟨rfl, rfl⟩
theorem word_m {b o n c : Nat} {L : List Int} {m : Int} (hm : m = L.length) (hb : isB L) (hc : HCells h b o (L.map (Value.int .u8))) (hn : L.length ≤ n) (hs : n ≤ 4611686018427387904) : HC Try.prog 78 #[.slice (some ⟨b, o, none⟩) n c, .int .i64 m] h fun v h' => v = .int .u64 (wd L) ∧ h' = h := by
  subst hm
  refine f78_sh _ _ _ _ _ _ ⟨fun x i => ∃ j : Nat, i = (j : Int) - 1 ∧ j ≤ L.length ∧ x = wd (L.drop j), fun _ i => (i + 1).toNat, ⟨L.length, by rw [w64 (by omega) (by omega)], Nat.le_refl _, by rw [List.drop_length]; rfl⟩, ?_⟩
  rintro _ _ ⟨j, rfl, hj, rfl⟩
  refine ⟨fun e => ?_, fun e => ?_⟩
  · have := of_decide_eq_true e
    obtain ⟨i, rfl⟩ : ∃ i, j = i + 1 := ⟨j - 1, by omega⟩
    rw [w64 (by omega) (by omega)]
    refine ⟨b, o, rfl, by omega, by omega, L[i], ?_, ⟨i, by omega, by omega, ?_⟩, by show Int.toNat _ < Int.toNat _; omega⟩
    · have := cell_u8 hc (i := i) (by omega)
      rw [show o + (((i + 1 : Nat) : Int) - 1).toNat * 1 = o + i by omega]; exact this
    · rw [List.drop_eq_getElem_cons (i := i) (by omega)]
      exact or_low (wd_U _) (hb _ (List.getElem_mem (by omega)))
  · have := of_decide_eq_false e
    have : j = 0 := by omega
    subst this; exact ⟨rfl, rfl⟩
end
end Cy
end Go.Proofs.Ytcdpapdefdnknaa
namespace Go.Proofs.Ytcdpapdefdnknaa
namespace Cy
open Go
abbrev rowV (v : V4) : Array Value := #[.int .u64 v.a, .int .u64 v.b, .int .u64 v.c, .int .u64 v.d]
theorem rowV_get (v : V4) {j : Nat} (hj : j < 4) : (rowV v)[j]? = some (.int .u64 (v.get j)) := by
  match j, hj with
  | 0, _ => rfl
  | 1, _ => rfl
  | 2, _ => rfl
  | 3, _ => rfl
theorem rowV_set (v : V4) {j : Nat} (hj : j < 4) (x : Int) : (rowV v).setIfInBounds j (.int .u64 x) = rowV (v.set j x) := by
  match j, hj with
  | 0, _ => rfl
  | 1, _ => rfl
  | 2, _ => rfl
  | 3, _ => rfl
theorem sub_eq (L : List Int) (p j : Nat) (hj : j < 4) : (((L.drop p).take 32).drop (8 * j)).take 8 = (L.drop (p + 8 * j)).take 8 := by
  rw [List.drop_take, List.take_take, List.drop_drop, Nat.min_eq_left (by omega)]
theorem cells_sub {h : Heap} {b o : Nat} {L : List Int} (hc : HCells h b o (L.map (Value.int .u8))) (p m : Nat) : HCells h b (o + p) (((L.drop p).take m).map (Value.int .u8)) :=
  HCells.mk fun j v hj => by
    have hlt := (List.getElem?_eq_some_iff.1 hj).1
    simp only [List.length_map, List.length_take, List.length_drop] at hlt
    rw [List.getElem?_map, List.getElem?_take, if_pos (by omega), List.getElem?_drop, ← List.getElem?_map] at hj
    have := hc.get hj
    rw [Nat.add_assoc]; exact this
theorem isB_take {L : List Int} (hb : isB L) (k : Nat) : isB (L.take k) := fun x hx => hb x (List.mem_of_mem_take hx)
theorem isB_drop {L : List Int} (hb : isB L) (k : Nat) : isB (L.drop k) := fun x hx => hb x (List.mem_of_mem_drop hx)
theorem sl_cells {h : Heap} {a : Option Addr} {c : Nat} {L : List Int} (s : Sl eB h a c L) (hp : 0 < L.length) : ∃ b o, a = some ⟨b, o, none⟩ ∧ HCells h b o (L.map (Value.int .u8)) := by
  rcases s.byt.2 with e | e
  · omega
  · exact e
section
variable {h : Heap} {a : Option Addr} {c : Nat} {L : List Int}
theorem tail_r (s : Sl eB h a c L) (hl : L.length ≤ 2305843009213693952) {F : Int} (x : Int) {p : Nat} (hp : p ≤ L.length) (hF : tl8 x (L.drop p) = F) {R : Value → Heap → Prop} (hR : R (.int .u64 F) h) :
    (∃ (I79 : Int → Int → Prop) (mu80 : Int → Int → Nat), I79 x p ∧
     (∀ (hv_2 : Int) (atv_2 : Int), I79 hv_2 atv_2 →
      (((decide ((IntKind.i64.wrap ((L.length : Int) - atv_2)) ≥ 8)) = true →
        (∃ r_5 : Int, HC Try.prog 67 #[(.slice a L.length c), (.int .i64 atv_2), (.int .i64 8)] h (fun vv h' => vv = (.int .u64 r_5) ∧ h' = h) ∧
         (∃ r_6 : Int, HC Try.prog 66 #[(.int .u64 0), (.int .u64 r_5)] h (fun vv h' => vv = (.int .u64 r_6) ∧ h' = h) ∧
          (∃ r_7 : Int, HC Try.prog 68 #[(.int .u64 (ibxor .u64 hv_2 r_6)), (.int .i64 27)] h (fun vv h' => vv = (.int .u64 r_7) ∧ h' = h) ∧
           (I79 (IntKind.u64.wrap ((IntKind.u64.wrap (r_7 * 11400714785074694791)) + 9650029242287828579)) (IntKind.i64.wrap (atv_2 + 8)) ∧ mu80 (IntKind.u64.wrap ((IntKind.u64.wrap (r_7 * 11400714785074694791)) + 9650029242287828579)) (IntKind.i64.wrap (atv_2 + 8)) < mu80 hv_2 atv_2))))) ∧
       ((decide ((IntKind.i64.wrap ((L.length : Int) - atv_2)) ≥ 8)) = false →
        (∃ hv_3 atv_3 : Int, (((decide ((IntKind.i64.wrap ((L.length : Int) - atv_2)) ≥ 4)) = true →
           (∃ r_5 : Int, HC Try.prog 67 #[(.slice a L.length c), (.int .i64 atv_2), (.int .i64 4)] h (fun vv h' => vv = (.int .u64 r_5) ∧ h' = h) ∧
            (∃ r_6 : Int, HC Try.prog 68 #[(.int .u64 (ibxor .u64 hv_2 (IntKind.u64.wrap (r_5 * 11400714785074694791)))), (.int .i64 23)] h (fun vv h' => vv = (.int .u64 r_6) ∧ h' = h) ∧
             (hv_3 = (IntKind.u64.wrap ((IntKind.u64.wrap (r_6 * 14029467366897019727)) + 1609587929392839161)) ∧ atv_3 = (IntKind.i64.wrap (atv_2 + 4)))))) ∧
          ((decide ((IntKind.i64.wrap ((L.length : Int) - atv_2)) ≥ 4)) = false →
           (hv_3 = hv_2 ∧ atv_3 = atv_2))) ∧
         (∃ (I93 : Int → Int → Prop) (mu94 : Int → Int → Nat), I93 hv_3 atv_3 ∧
          (∀ (hv_4 : Int) (atv_4 : Int), I93 hv_4 atv_4 →
           (((decide (atv_4 < (L.length : Int))) = true →
             (∃ b_b b_o : Nat, a = some ⟨b_b, b_o, none⟩ ∧
              (0 : Int) ≤ atv_4 ∧ atv_4 < (L.length : Int) ∧
              (∃ x_8 : Int, hcell h b_b (b_o + (Int.toNat atv_4) * 1) = some (.int .u8 x_8) ∧
               (∃ r_7 : Int, HC Try.prog 68 #[(.int .u64 (ibxor .u64 hv_4 (IntKind.u64.wrap ((IntKind.u64.wrap x_8) * 2870177450012600261)))), (.int .i64 11)] h (fun vv h' => vv = (.int .u64 r_7) ∧ h' = h) ∧
                (I93 (IntKind.u64.wrap (r_7 * 11400714785074694791)) (IntKind.i64.wrap (atv_4 + 1)) ∧ mu94 (IntKind.u64.wrap (r_7 * 11400714785074694791)) (IntKind.i64.wrap (atv_4 + 1)) < mu94 hv_4 atv_4))))) ∧
            ((decide (atv_4 < (L.length : Int))) = false → R (.int .u64 (fin hv_4)) h))))))))) := by
  refine ⟨fun x q => ∃ p : Nat, q = p ∧ p ≤ L.length ∧ tl8 x (L.drop p) = F, fun _ q => L.length - q.toNat, ⟨p, rfl, hp, hF⟩, ?_⟩
  rintro x _ ⟨p, rfl, hp, hF⟩
  have hw : IntKind.i64.wrap ((L.length : Int) - (p : Int)) = ((L.length - p : Nat) : Int) := by rw [w64 (by omega) (by omega)]; omega
  rw [hw]
  refine ⟨fun e => ?_, fun e => ?_⟩
  · have e8 := of_decide_eq_true e
    obtain ⟨b, o, rfl, hc⟩ := sl_cells s (by omega)
    have h8 : ((L.drop p).take 8).length = 8 := by rw [List.length_take, List.length_drop]; omega
    refine ⟨_, word_r (L := (L.drop p).take 8) (by rw [h8]; rfl) (cells_sub hc p 8) (by omega) (by omega), _, rnd_r _ _ h, _, rol_r 27 (by decide) _ h, ?_⟩
    rw [show IntKind.i64.wrap ((p : Int) + 8) = ((p + 8 : Nat) : Int) by rw [w64 (by omega) (by omega)]; omega]
    refine ⟨⟨p + 8, rfl, by omega, ?_⟩, by show L.length - Int.toNat _ < L.length - Int.toNat _; omega⟩
    rw [tl8_step (by rw [List.length_drop]; omega), List.drop_drop] at hF
    exact hF
  · have e8 := of_decide_eq_false e
    rw [tl8_small (by rw [List.length_drop]; omega)] at hF
    have fin_ : ∀ (y : Int) (q : Nat), q ≤ L.length → tl1 y (L.drop q) = F → (∃ (I93 : Int → Int → Prop) (mu94 : Int → Int → Nat), I93 y q ∧
          (∀ (hv_4 : Int) (atv_4 : Int), I93 hv_4 atv_4 →
           (((decide (atv_4 < (L.length : Int))) = true →
             (∃ b_b b_o : Nat, a = some ⟨b_b, b_o, none⟩ ∧
              (0 : Int) ≤ atv_4 ∧ atv_4 < (L.length : Int) ∧
              (∃ x_8 : Int, hcell h b_b (b_o + (Int.toNat atv_4) * 1) = some (.int .u8 x_8) ∧
               (∃ r_7 : Int, HC Try.prog 68 #[(.int .u64 (ibxor .u64 hv_4 (IntKind.u64.wrap ((IntKind.u64.wrap x_8) * 2870177450012600261)))), (.int .i64 11)] h (fun vv h' => vv = (.int .u64 r_7) ∧ h' = h) ∧
                (I93 (IntKind.u64.wrap (r_7 * 11400714785074694791)) (IntKind.i64.wrap (atv_4 + 1)) ∧ mu94 (IntKind.u64.wrap (r_7 * 11400714785074694791)) (IntKind.i64.wrap (atv_4 + 1)) < mu94 hv_4 atv_4))))) ∧
            ((decide (atv_4 < (L.length : Int))) = false → R (.int .u64 (fin hv_4)) h)))) := by
      intro y q hq hy
      refine ⟨fun x q => ∃ p : Nat, q = p ∧ p ≤ L.length ∧ tl1 x (L.drop p) = F, fun _ q => L.length - q.toNat, ⟨q, rfl, hq, hy⟩, ?_⟩
      rintro x _ ⟨p, rfl, hp, hF⟩
      refine ⟨fun e => ?_, fun e => ?_⟩
      · have hlt := lt_of_dec e
        obtain ⟨b, o, rfl, hc⟩ := sl_cells s (by omega)
        refine ⟨b, o, rfl, by omega, by omega, L[p], ?_, _, rol_r 11 (by decide) _ h, ?_⟩
        · rw [Int.toNat_natCast, Nat.mul_one]; exact cell_u8 hc hlt
        · rw [wadd p (by omega)]
          refine ⟨⟨p + 1, rfl, hlt, ?_⟩, by show L.length - Int.toNat _ < L.length - Int.toNat _; omega⟩
          rw [List.drop_eq_getElem_cons hlt] at hF
          exact hF
      · have hge := ge_of_dec e
        rw [List.drop_of_length_le hge] at hF
        subst hF
        exact hR
    unfold tl4 at hF
    by_cases h4 : 4 ≤ (L.drop p).length
    · rw [if_pos h4] at hF
      rw [List.length_drop] at h4
      have h4' : ((L.drop p).take 4).length = 4 := by rw [List.length_take, List.length_drop]; omega
      rw [List.drop_drop] at hF
      refine ⟨_, _, ⟨fun _ => ?_, fun e4 => ?_⟩, fin_ _ (p + 4) (by omega) hF⟩
      · obtain ⟨b, o, rfl, hc⟩ := sl_cells s (by omega)
        exact ⟨_, word_r (L := (L.drop p).take 4) (by rw [h4']; rfl) (cells_sub hc p 4) (by omega) (by omega), _, rol_r 23 (by decide) _ h, rfl, by rw [w64 (by omega) (by omega)]; omega⟩
      · have := of_decide_eq_false e4; omega
    · rw [if_neg h4] at hF
      rw [List.length_drop] at h4
      refine ⟨_, _, ⟨fun e4 => ?_, fun _ => ⟨rfl, rfl⟩⟩, fin_ _ p hp hF⟩
      have := of_decide_eq_true e4; omega
set_option maxHeartbeats 1600000 in
theorem hash_r (s : Sl eB h a c L) (hl : L.length ≤ 2305843009213693952) (sd : Int) : HC Try.prog 52 #[.int .u64 sd, .slice a L.length c] h fun v h' => v = .int .u64 (hL sd L) ∧ Ext h h' := by
  refine f52_sh _ _ _ _ _ _ ⟨fun hv q h1 => Ext h h1 ∧ hv = (if 32 ≤ L.length then mg (ln (L.length / 32) (v0 sd) L) else IntKind.u64.wrap (sd + 2870177450012600261)) ∧ q = ((32 * (L.length / 32) : Nat) : Int), ⟨fun e v h2 ev e2 => ?_, fun e => ?_⟩, ?_⟩
  · have h32 := of_decide_eq_true e
    have h32' : 32 ≤ L.length := by omega
    have r2 : h2[v]? = some (.cells (rowV ⟨0, 0, 0, 0⟩) 111 (0, 0)) := by rw [e2]; exact push_new ev
    have x2 : Ext h h2 := by rw [e2]; exact Ext.push _ _
    refine ⟨HWs_row r2 (by decide), fun h3 e3 => ?_⟩
    have r3 : h3[v]? = some (.cells (rowV ⟨sd, IntKind.u64.wrap (sd + 14029467366897019727), sd, sd⟩) 111 (0, 0)) := by rw [e3]; exact hsets_row _ r2
    have f3 : Fr (· = v) h2 h3 := by rw [e3]; exact fr_hsets _ fun _ => rfl
    refine ⟨by decide, by decide, _, by rw [hcell_row r3]; rfl, by decide, by decide, HW_row r3 (by show _ < 4; decide), fun h4 e4 => ?_⟩
    have r4 : h4[v]? = some (.cells (rowV ⟨IntKind.u64.wrap (sd + 11400714785074694791), IntKind.u64.wrap (sd + 14029467366897019727), sd, sd⟩) 111 (0, 0)) := by rw [e4]; exact hset_row r3
    have f4 : Fr (· = v) h3 h4 := fr_hset_of e4
    refine ⟨by decide, by decide, _, by rw [hcell_row r4]; rfl, by decide, by decide, HW_row r4 (by show _ < 4; decide), fun h5 e5 => ?_⟩
    have r5 : h5[v]? = some (.cells (rowV ⟨IntKind.u64.wrap (IntKind.u64.wrap (sd + 11400714785074694791) + 14029467366897019727), IntKind.u64.wrap (sd + 14029467366897019727), sd, sd⟩) 111 (0, 0)) := by rw [e5]; exact hset_row r4
    have f5 : Fr (· = v) h4 h5 := fr_hset_of e5
    refine ⟨by decide, by decide, _, by rw [hcell_row r5]; rfl, by decide, by decide, HW_row r5 (by show _ < 4; decide), fun h6 e6 => ?_⟩
    have r6 : h6[v]? = some (.cells (rowV (v0 sd)) 111 (0, 0)) := by rw [e6]; exact hset_row r5
    have f6 : Fr (· = v) h5 h6 := fr_hset_of e6
    have f26 : Fr (· = v) h2 h6 := ((f3.trans f4 fun _ _ q => q).trans f5 fun _ _ q => q).trans f6 fun _ _ q => q
    have ext : ∀ {hh}, Fr (· = v) h2 hh → Ext h hh := fun f => ((x2.fr _).trans f fun _ _ q => q).ext fun i hi q => by omega
    obtain ⟨b, o, rfl, hc⟩ := sl_cells s (by omega)
    refine ⟨fun q h7 => ∃ (k : Nat) (u : V4), q = ((32 * k : Nat) : Int) ∧ k ≤ L.length / 32 ∧ h7[v]? = some (.cells (rowV u) 111 (0, 0)) ∧ Fr (· = v) h2 h7 ∧ ln (L.length / 32 - k) u (L.drop (32 * k)) = ln (L.length / 32) (v0 sd) L, fun q _ => L.length - q.toNat, ⟨0, v0 sd, rfl, Nat.zero_le _, r6, f26, rfl⟩, ?_⟩
    rintro _ h7 ⟨k, u, rfl, hk, r7, f7, hln⟩
    have hw : IntKind.i64.wrap ((L.length : Int) - ((32 * k : Nat) : Int)) = ((L.length - 32 * k : Nat) : Int) := by rw [w64 (by omega) (by omega)]; omega
    rw [hw]
    refine ⟨fun e7 => ?_, fun e7 => ?_⟩
    · have e7 := of_decide_eq_true e7
      refine ⟨fun i h8 => ∃ j : Nat, i = j ∧ j ≤ 4 ∧ h8[v]? = some (.cells (rowV (blkT ((L.drop (32 * k)).take 32) j u)) 111 (0, 0)) ∧ Fr (· = v) h2 h8, fun i _ => 4 - i.toNat, ⟨0, rfl, by decide, r7, f7⟩, ?_⟩
      rintro _ h8 ⟨j, rfl, hj, r8, f8⟩
      refine ⟨fun e8 => ?_, fun e8 => ?_⟩
      · have hj4 : j < 4 := by have := of_decide_eq_true e8; omega
        have hlen : (((L.drop (32 * k + 8 * j)).take 8)).length = 8 := by rw [List.length_take, List.length_drop]; omega
        refine ⟨by omega, by omega, (blkT ((L.drop (32 * k)).take 32) j u).get j, by rw [hcell_row r8, Int.toNat_natCast, Nat.mul_one, Nat.zero_add]; exact rowV_get _ hj4, wd ((L.drop (32 * k + 8 * j)).take 8), fun h11 x11 => ?_, rnd ((blkT ((L.drop (32 * k)).take 32) j u).get j) (wd ((L.drop (32 * k + 8 * j)).take 8)), fun h10 x10 => rnd_r _ _ h10, by omega, by omega, HW_row r8 (by show _ < 4; omega), fun h9 e9 => ?_⟩
        · have ha : IntKind.i64.wrap (((32 * k : Nat) : Int) + IntKind.i64.wrap (8 * (j : Int))) = ((32 * k + 8 * j : Nat) : Int) := by
            rw [w64 (x := 8 * (j : Int)) (by omega) (by omega), w64 (by omega) (by omega)]; omega
          rw [ha]
          refine word_r (L := (L.drop (32 * k + 8 * j)).take 8) (by rw [hlen]; rfl) ?_ (by omega) (by omega)
          have hcx : HCells h11 b o (L.map (Value.int .u8)) := HCells.mk fun _ _ hq => ((ext f8).trans x11).cell (hc.get hq)
          exact cells_sub hcx _ 8
        · rw [wadd j (by omega)]
          refine ⟨⟨j + 1, rfl, hj4, ?_, f8.trans (fr_hset_of e9) fun _ _ q => q⟩, by show 4 - Int.toNat _ < 4 - Int.toNat _; omega⟩
          have := hset_row (v := .int .u64 (rnd ((blkT ((L.drop (32 * k)).take 32) j u).get j) (wd ((L.drop (32 * k + 8 * j)).take 8)))) (o := 0 + (Int.toNat (j : Int)) * 1) r8
          rw [← e9] at this
          rw [this, Int.toNat_natCast, Nat.mul_one, Nat.zero_add, rowV_set _ hj4, ← sub_eq _ _ _ hj4]; rfl
      · have hj4 : j = 4 := by have := of_decide_eq_false e8; omega
        subst hj4
        rw [show IntKind.i64.wrap (((32 * k : Nat) : Int) + 32) = ((32 * (k + 1) : Nat) : Int) by rw [w64 (by omega) (by omega)]; omega]
        refine ⟨⟨k + 1, _, rfl, by omega, r8, f8, ?_⟩, by show L.length - Int.toNat _ < L.length - Int.toNat _; omega⟩
        rw [← hln, show L.length / 32 - k = (L.length / 32 - (k + 1)) + 1 by omega]
        simp only [ln]
        rw [List.drop_drop, show 32 * k + 32 = 32 * (k + 1) by omega]
    · have e7 := of_decide_eq_false e7
      have hk' : k = L.length / 32 := by omega
      subst hk'
      rw [Nat.sub_self] at hln
      simp only [ln] at hln
      subst hln
      generalize ln (L.length / 32) (v0 sd) L = u at *
      have cell : ∀ {j : Nat}, j < 4 → ∀ {i : Int}, i = j → hcell h7 v (0 + Int.toNat i * 1) = some (.int .u64 (u.get j)) := fun {j} hj {i} e => by
        subst e
        rw [hcell_row r7, Int.toNat_natCast, Nat.mul_one, Nat.zero_add]; exact rowV_get _ hj
      refine ⟨by decide, by decide, _, cell (j := 0) (by decide) rfl, _, fun hh _ => rol_r 1 (by decide) _ hh, by decide, by decide, _, cell (j := 1) (by decide) rfl, _, fun hh _ => rol_r 7 (by decide) _ hh, by decide, by decide, _, cell (j := 2) (by decide) rfl, _, fun hh _ => rol_r 12 (by decide) _ hh, by decide, by decide, _, cell (j := 3) (by decide) rfl, _, fun hh _ => rol_r 18 (by decide) _ hh, ?_⟩
      refine ⟨fun hv i => ∃ j : Nat, i = j ∧ j ≤ 4 ∧ hv = mgT u j (rots u), fun _ i => 4 - i.toNat, ⟨0, rfl, by decide, rfl⟩, ?_⟩
      rintro _ _ ⟨j, rfl, hj, rfl⟩
      refine ⟨fun e8 => ?_, fun e8 => ?_⟩
      · have hj4 : j < 4 := by have := of_decide_eq_true e8; omega
        refine ⟨by omega, by omega, _, cell hj4 rfl, _, rnd_r _ _ h7, ?_⟩
        rw [wadd j (by omega)]
        exact ⟨⟨j + 1, rfl, hj4, rfl⟩, by show 4 - Int.toNat _ < 4 - Int.toNat _; omega⟩
      · have hj4 : j = 4 := by have := of_decide_eq_false e8; omega
        subst hj4
        exact ⟨ext f7, by rw [if_pos h32']; rfl, rfl⟩
  · have h32 := of_decide_eq_false e
    refine ⟨Ext.refl _, by rw [if_neg (by omega)], ?_⟩
    rw [show L.length / 32 = 0 by omega]; rfl
  · rintro hv q h1 ⟨x1, rfl, rfl⟩
    refine tail_r (s.ext x1) hl _ (F := hL sd L) (R := fun v h' => v = .int .u64 (hL sd L) ∧ Ext h h') (by omega) rfl ?_
    exact ⟨rfl, x1⟩
end
end Cy
end Go.Proofs.Ytcdpapdefdnknaa
namespace Go.Proofs.Ytcdpapdefdnknaa
namespace Cy
open Go
def hcs (s : Int) (v : V4) (l : List Int) (k t : Int) : List Value := [.int .u64 s, .int .u64 v.a, .int .u64 v.b, .int .u64 v.c, .int .u64 v.d] ++ (l.map (Value.int .u8) ++ [.int .i64 k, .int .u64 t])
abbrev tH : TypeId := 123
abbrev Hs (h : Heap) (p : Nat) (s : Int) (v : V4) (l : List Int) (k t : Int) : Prop := h[p]? = some (.cells (hcs s v l k t).toArray tH (0, 0))
section
variable {s : Int} {v : V4} {l : List Int} {k t : Int}
theorem hcs_len (hl : l.length = 32) : (hcs s v l k t).length = 39 := by unfold hcs; simp [hl]
theorem hcs_lane {j : Nat} (hj : j < 4) : (hcs s v l k t)[1 + j]? = some (.int .u64 (v.get j)) := by
  match j, hj with
  | 0, _ => rfl
  | 1, _ => rfl
  | 2, _ => rfl
  | 3, _ => rfl
theorem hcs_at (i : Nat) : (hcs s v l k t)[5 + i]? = (l.map (Value.int .u8) ++ [.int .i64 k, .int .u64 t])[i]? := by
  unfold hcs
  rw [List.getElem?_append_right (by simp)]
  simp
theorem hcs_kept (hl : l.length = 32) : (hcs s v l k t)[37]? = some (.int .i64 k) := by
  rw [show (37 : Nat) = 5 + 32 from rfl, hcs_at, List.getElem?_append_right (by simp [hl])]; simp [hl]
theorem hcs_tot (hl : l.length = 32) : (hcs s v l k t)[38]? = some (.int .u64 t) := by
  rw [show (38 : Nat) = 5 + 33 from rfl, hcs_at, List.getElem?_append_right (by simp [hl])]; simp [hl]
theorem hcs_set_lane {j : Nat} (hj : j < 4) (x : Int) : (hcs s v l k t).set (1 + j) (.int .u64 x) = hcs s (v.set j x) l k t := by
  match j, hj with
  | 0, _ => rfl
  | 1, _ => rfl
  | 2, _ => rfl
  | 3, _ => rfl
theorem hcs_set_kept (hl : l.length = 32) (x : Int) : (hcs s v l k t).set 37 (.int .i64 x) = hcs s v l x t := by
  unfold hcs
  rw [List.set_append_right _ _ (by simp), List.set_append_right _ _ (by simp [hl])]
  simp [hl]
theorem hcs_set_tot (hl : l.length = 32) (x : Int) : (hcs s v l k t).set 38 (.int .u64 x) = hcs s v l k x := by
  unfold hcs
  rw [List.set_append_right _ _ (by simp), List.set_append_right _ _ (by simp [hl])]
  simp [hl]
section
variable {h : Heap} {p : Nat}
theorem Hs.lane (r : Hs h p s v l k t) {j : Nat} (hj : j < 4) : hcell h p (1 + j) = some (.int .u64 (v.get j)) := by rw [hcell_row r, List.getElem?_toArray]; exact hcs_lane hj
theorem Hs.kept (r : Hs h p s v l k t) (hl : l.length = 32) : hcell h p 37 = some (.int .i64 k) := by rw [hcell_row r, List.getElem?_toArray]; exact hcs_kept hl
theorem Hs.tot (r : Hs h p s v l k t) (hl : l.length = 32) : hcell h p 38 = some (.int .u64 t) := by rw [hcell_row r, List.getElem?_toArray]; exact hcs_tot hl
theorem Hs.left (r : Hs h p s v l k t) : HCells h p 5 (l.map (Value.int .u8)) := HCells.row r fun j v hj => by
  rw [List.getElem?_toArray, hcs_at, List.getElem?_append_left (List.getElem?_eq_some_iff.1 hj).1]; exact hj
theorem Hs.w (r : Hs h p s v l k t) (hl : l.length = 32) {i : Nat} (hi : i < 39) : HW h p i := HW_row r (by rw [List.size_toArray, hcs_len hl]; exact hi)
theorem Hs.setL (r : Hs h p s v l k t) {j : Nat} (hj : j < 4) {x : Int} {h' : Heap} (e : h' = hset h p (1 + j) (.int .u64 x)) : Hs h' p s (v.set j x) l k t := by
  have := hset_row (o := 1 + j) (v := .int .u64 x) r
  rw [← e, List.setIfInBounds_toArray, hcs_set_lane hj] at this; exact this
theorem Hs.setK (r : Hs h p s v l k t) (hl : l.length = 32) {x : Int} {h' : Heap} (e : h' = hset h p 37 (.int .i64 x)) : Hs h' p s v l x t := by
  have := hset_row (o := 37) (v := .int .i64 x) r
  rw [← e, List.setIfInBounds_toArray, hcs_set_kept hl] at this; exact this
theorem Hs.setT (r : Hs h p s v l k t) (hl : l.length = 32) {x : Int} {h' : Heap} (e : h' = hset h p 38 (.int .u64 x)) : Hs h' p s v l k x := by
  have := hset_row (o := 38) (v := .int .u64 x) r
  rw [← e, List.setIfInBounds_toArray, hcs_set_tot hl] at this; exact this
theorem Hs.copy (r : Hs h p s v l k t) (hl : l.length = 32) {M : List Int} (hM : M.length ≤ 32) : Hs (hsets h p 5 (M.map (Value.int .u8))) p s v (M ++ l.drop M.length) k t := by
  have := hsets_row (M.map (Value.int .u8)) (o := 5) r
  show (hsets h p 5 (M.map (Value.int .u8)))[p]? = _
  rw [this]
  congr 2
  apply Array.ext_getElem?
  intro i
  rw [sets_get _ _ _ _ (by rw [List.size_toArray, hcs_len hl, List.length_map]; omega), List.getElem?_toArray, List.getElem?_toArray, List.length_map]
  by_cases h5 : i < 5
  · rw [if_neg (by omega)]
    unfold hcs
    rw [List.getElem?_append_left (by simpa using h5), List.getElem?_append_left (by simpa using h5)]
  · obtain ⟨q, rfl⟩ : ∃ q, i = 5 + q := ⟨i - 5, by omega⟩
    rw [hcs_at, hcs_at, List.map_append, List.append_assoc]
    by_cases hq : q < M.length
    · rw [if_pos (by omega), show 5 + q - 5 = q by omega, List.getElem?_append_left (by simpa using hq)]
    · rw [if_neg (by omega), List.getElem?_append_right (l₁ := M.map (Value.int .u8)) (by simpa using Nat.le_of_not_lt hq), List.length_map]
      by_cases hq2 : q < 32
      · rw [List.getElem?_append_left (by simpa [hl] using hq2), List.getElem?_append_left (by simp [hl]; omega), List.map_drop, List.getElem?_drop, show M.length + (q - M.length) = q by omega]
      · rw [List.getElem?_append_right (by simpa [hl] using Nat.le_of_not_lt hq2), List.getElem?_append_right (by simp [hl]; omega)]
        simp only [List.length_map, List.length_drop, hl]
        rw [show q - M.length - (32 - M.length) = q - 32 by omega]
theorem full_m (r : Hs h p s v l k t) (hl : l.length = 32) (hb : isB l) : HC Try.prog 74 #[ptr p 0] h fun u h' => u = .tuple #[] ∧ Fr (· = p) h h' ∧ Hs h' p s (blkT l 4 v) l 0 t := by
  refine f74_sh _ _ _ _ ⟨fun i h1 => ∃ j : Nat, i = j ∧ j ≤ 4 ∧ Fr (· = p) h h1 ∧ Hs h1 p s (blkT l j v) l k t, fun i _ => 4 - i.toNat, ⟨0, rfl, by decide, Fr.refl _ _, r⟩, ?_⟩
  rintro _ h1 ⟨j, rfl, hj, f1, r1⟩
  refine ⟨fun e => ?_, fun e => ?_⟩
  · have hj4 : j < 4 := by have := of_decide_eq_true e; omega
    have e8 : IntKind.i64.wrap (8 * (j : Int)) = ((8 * j : Nat) : Int) := by rw [w64 (by omega) (by omega)]; omega
    rw [e8]
    refine ⟨by omega, by omega, (blkT l j v).get j, ?_, by omega, by omega, Int.le_refl _, fun sl esl => ?_⟩
    · rw [show 0 + 1 + Int.toNat (j : Int) * 1 = 1 + j by omega]; exact r1.lane hj4
    obtain ⟨o', e1, e2⟩ := slA_some (b := p) (o := 0 + 5) (l := Int.toNat ((8 * j : Nat) : Int)) (sz := 1) (m := 32)
    have hlen : ((l.drop (8 * j)).take 8).length = 8 := by rw [List.length_take, List.length_drop]; omega
    refine ⟨wd ((l.drop (8 * j)).take 8), fun h4 x4 => ?_, rnd ((blkT l j v).get j) (wd ((l.drop (8 * j)).take 8)), fun h3 x3 => rnd_m _ _ h3, by omega, by omega, ?_, fun h2 e2' => ?_⟩
    · rw [esl, e1]
      refine word_m (by rw [hlen]; rfl) (isB_take (isB_drop hb _) _) ?_ (by rw [hlen, Int.toNat_natCast, Int.toNat_natCast]; omega) (by rw [Int.toNat_natCast, Int.toNat_natCast]; omega)
      have := cells_sub (h := h4) (b := p) (o := 5) (HCells.mk fun _ _ hq => x4.cell (r1.left.get hq)) (8 * j) 8
      rw [e2 (by rw [Int.toNat_natCast]; omega), show 0 + 5 + Int.toNat ((8 * j : Nat) : Int) * 1 = 5 + 8 * j by omega]; exact this
    · exact r1.w hl (by omega)
    · rw [show 0 + 1 + Int.toNat (j : Int) * 1 = 1 + j by omega] at e2'
      rw [wadd j (by omega)]
      exact ⟨⟨j + 1, rfl, hj4, f1.trans (fr_hset_of e2') fun _ _ q => q, r1.setL hj4 e2'⟩, by show 4 - Int.toNat _ < 4 - Int.toNat _; omega⟩
  · have hj4 : j = 4 := by have := of_decide_eq_false e; omega
    subst hj4
    refine ⟨r1.w hl (by decide), fun h5 e5 => ⟨rfl, f1.trans (fr_hset_of e5) fun _ _ q => q, r1.setK hl e5⟩⟩
def pr1 (v : V4) : Int := IntKind.u64.wrap (0 + rol 1 v.a)
def pr2 (v : V4) : Int := IntKind.u64.wrap (pr1 v + rol 7 v.b)
def pr3 (v : V4) : Int := IntKind.u64.wrap (pr2 v + rol 12 v.c)
def pr (v : V4) : Nat → Int
  | 0 => 0
  | 1 => pr1 v
  | 2 => pr2 v
  | 3 => pr3 v
  | _ => IntKind.u64.wrap (pr3 v + rol 18 v.d)
theorem pr4 (v : V4) : pr v 4 = rots v := by
  have : IntKind.u64.wrap (0 + rol 1 v.a) = rol 1 v.a := by rw [Int.zero_add]; exact uW (ibor_U _ _)
  simp only [pr, pr3, pr2, pr1, rots, this]
theorem lanes_m (r : Hs h p s v l k t) : HC Try.prog 75 #[ptr p 0] h fun u h' => u = .int .u64 (mg v) ∧ h' = h := by
  refine f75_sh _ _ _ _ ⟨fun out i => ∃ j : Nat, i = j ∧ j ≤ 4 ∧ out = pr v j, fun _ i => 4 - i.toNat, ⟨0, rfl, by decide, rfl⟩, ?_⟩
  rintro _ _ ⟨j, rfl, hj, rfl⟩
  refine ⟨fun e => ?_, fun e => ?_⟩
  · have hj4 : j < 4 := by have := of_decide_eq_true e; omega
    match j, hj4 with
    | 0, _ => exact ⟨by decide, by decide, _, rfl, by decide, by decide, _, r.lane (j := 0) (by decide), _, rol_m 1 (by decide) _ h, ⟨1, rfl, by decide, rfl⟩, by simp only []; decide⟩
    | 1, _ => exact ⟨by decide, by decide, _, rfl, by decide, by decide, _, r.lane (j := 1) (by decide), _, rol_m 7 (by decide) _ h, ⟨2, rfl, by decide, rfl⟩, by simp only []; decide⟩
    | 2, _ => exact ⟨by decide, by decide, _, rfl, by decide, by decide, _, r.lane (j := 2) (by decide), _, rol_m 12 (by decide) _ h, ⟨3, rfl, by decide, rfl⟩, by simp only []; decide⟩
    | 3, _ => exact ⟨by decide, by decide, _, rfl, by decide, by decide, _, r.lane (j := 3) (by decide), _, rol_m 18 (by decide) _ h, ⟨4, rfl, by decide, rfl⟩, by simp only []; decide⟩
  · have hj4 : j = 4 := by have := of_decide_eq_false e; omega
    subst hj4
    refine ⟨_, _, _, _, r.lane (j := 0) (by decide), r.lane (j := 1) (by decide), r.lane (j := 2) (by decide), r.lane (j := 3) (by decide), fun x i => ∃ j : Nat, i = j ∧ j ≤ 4 ∧ x = mgT v j (rots v), fun _ i => 4 - i.toNat, ⟨0, rfl, by decide, pr4 v⟩, ?_⟩
    rintro _ _ ⟨j, rfl, hj, rfl⟩
    refine ⟨fun e => ?_, fun e => ?_⟩
    · have hj4 : j < 4 := by have := of_decide_eq_true e; omega
      refine ⟨by omega, by omega, v.get j, by rw [Int.toNat_natCast]; exact rowV_get v hj4, _, rnd_m _ _ h, ?_⟩
      rw [wadd j (by omega)]
      exact ⟨⟨j + 1, rfl, hj4, rfl⟩, by show 4 - Int.toNat _ < 4 - Int.toNat _; omega⟩
    · have hj4 : j = 4 := by have := of_decide_eq_false e; omega
      subst hj4
      exact ⟨rfl, rfl⟩
end
end
end Cy
end Go.Proofs.Ytcdpapdefdnknaa
namespace Go.Proofs.Ytcdpapdefdnknaa
namespace Cy
open Go
def Way (FV : V4) (FT : List Int) (v : V4) (l : List Int) (k : Nat) (M : List Int) : Prop :=
  (k = 0 ∧ ln (M.length / 32) v M = FV ∧ M.drop (32 * (M.length / 32)) = FT) ∨ (M = [] ∧ k = FT.length ∧ v = FV ∧ l.take k = FT)
theorem Way.done {FV : V4} {FT : List Int} {v : V4} {l : List Int} {k : Nat} (w : Way FV FT v l k []) : k = FT.length ∧ v = FV ∧ l.take k = FT := by
  rcases w with ⟨rfl, h1, h2⟩ | ⟨_, h1, h2, h3⟩
  · have h1 : v = FV := h1
    have h2 : ([] : List Int) = FT := h2
    subst h1; subst h2
    exact ⟨rfl, rfl, rfl⟩
  · exact ⟨h1, h2, h3⟩
section
variable {h : Heap} {p : Nat} {s : Int} {a : Option Addr} {c : Nat} {L : List Int}
theorem write_m {l0 : List Int} (r : Hs h p s (v0 s) l0 0 0) (hl0 : l0.length = 32) (hb0 : isB l0) (sl : Sl eB h a c L) (hb : isB L) (hl : L.length ≤ 2305843009213693952) (hp : ∀ q, blkA a q → q ≠ p) :
    HC Try.prog 63 #[ptr p 0, .slice a L.length c] h fun u h' => u = .tuple #[] ∧ Fr (· = p) h h' ∧ ∃ l, l.length = 32 ∧ isB l ∧ l.take (L.length % 32) = L.drop (32 * (L.length / 32)) ∧ Hs h' p s (ln (L.length / 32) (v0 s) L) l ((L.length % 32 : Nat) : Int) (L.length : Int) := by
  refine f63_sh _ _ _ _ _ _ _ ⟨_, r.tot hl0, r.w hl0 (by decide), fun h1 e1 => ?_⟩
  have r1 := r.setT hl0 e1
  rw [show IntKind.u64.wrap (0 + IntKind.u64.wrap (L.length : Int)) = (L.length : Int) by rw [uW (x := (L.length : Int)) ⟨by omega, by omega⟩, uW ⟨by omega, by omega⟩]; omega] at r1
  have f1 : Fr (· = p) h h1 := fr_hset_of e1
  generalize hFV : ln (L.length / 32) (v0 s) L = FV
  generalize hFT : L.drop (32 * (L.length / 32)) = FT
  have hFTl : FT.length = L.length % 32 := by rw [← hFT, List.length_drop]; omega
  refine ⟨fun b n c' h2 => ∃ (M : List Int) (v : V4) (l : List Int) (k : Nat), n = M.length ∧ M.length ≤ L.length ∧ Sl eB h2 b c' M ∧ isB M ∧ (∀ q, blkA b q → q ≠ p) ∧ l.length = 32 ∧ isB l ∧ Hs h2 p s v l k (L.length : Int) ∧ Fr (· = p) h h2 ∧ Way FV FT v l k M, fun _ n _ _ => n,
    ⟨L, _, l0, 0, rfl, Nat.le_refl _, sl.fr f1 fun b hb q => hp b hb q, hb, hp, hl0, hb0, r1, f1, .inl ⟨rfl, hFV, hFT⟩⟩, ?_⟩
  rintro b _ c' h2 ⟨M, v, l, k, rfl, hML, s2, bM, hp2, hl2, bl, r2, f2, way⟩
  refine ⟨fun e => ?_, fun e => ?_⟩
  · have hM0 := of_decide_eq_true e
    have hM : M ≠ [] := fun q => by subst q; simp at hM0
    have hk : k = 0 ∧ ln (M.length / 32) v M = FV ∧ M.drop (32 * (M.length / 32)) = FT := way.elim id fun q => absurd q.1 hM
    obtain ⟨rfl, w1, w2⟩ := hk
    obtain ⟨bb, bo, rfl, hc⟩ := sl_cells s2 (by omega)
    refine ⟨0, r2.kept hl2, by decide, by decide, Int.le_refl _, fun sl' esl => ?_⟩
    have esl' : sl' = some ⟨p, 5, none⟩ := by
      rw [esl]; unfold slA; rw [if_neg (by decide)]; rfl
    rw [esl']
    have hn : Nat.min M.length 32 = (M.take 32).length := by rw [List.length_take, Nat.min_comm]
    have hn2 : (M.take 32).length ≤ 32 := by rw [List.length_take]; omega
    have hn3 : (M.take 32).length ≤ M.length := by rw [List.length_take]; omega
    have hn4 : M.take (M.take 32).length = M.take 32 := by
      rw [List.length_take]
      by_cases q : 32 ≤ M.length
      · rw [Nat.min_eq_left q]
      · rw [Nat.min_eq_right (by omega), List.take_length, List.take_of_length_le (by omega)]
    refine hcopy_of (e := 5) (size := 1) (cs := (M.take 32).map (Value.int .u8)) (q := (M.take 32).length) (by kernel_rfl) (by kernel_rfl) (by rw [← hn]; rfl) (by simp) (fun v hv => by obtain ⟨x, _, rfl⟩ := List.mem_map.1 hv; rfl) (.inr ⟨bb, bo, rfl, ?_⟩) (.inr ⟨p, 5, rfl, fun j hj => r2.w hl2 (by rw [List.length_map] at hj; omega)⟩) ?_
    · have := cells_sub hc 0 32
      simpa using this
    intro h3 _ e3
    have e3 := e3 p 5 rfl
    have r3 : Hs h3 p s v (M.take 32 ++ l.drop (M.take 32).length) ((0 : Nat) : Int) (L.length : Int) := by rw [e3]; exact r2.copy hl2 hn2
    have hl3 : (M.take 32 ++ l.drop (M.take 32).length).length = 32 := by rw [List.length_append, List.length_drop, hl2]; omega
    have bl3 : isB (M.take 32 ++ l.drop (M.take 32).length) := fun x hx => (List.mem_append.1 hx).elim (isB_take bM _ x) (isB_drop bl _ x)
    have f3 : Fr (· = p) h2 h3 := by rw [e3]; exact fr_hsets _ fun _ => rfl
    refine ⟨_, rfl, _, r3.kept hl3, r3.w hl3 (by decide), fun h4 e4 => ⟨by omega, by omega, by have := s2.le; omega, fun sl1 es1 => ?_⟩⟩
    have r4 := r3.setK hl3 e4
    have f4 : Fr (· = p) h3 h4 := fr_hset_of e4
    have f24 := f3.trans f4 fun _ _ q => q
    rw [show IntKind.i64.wrap (((0 : Nat) : Int) + ((M.take 32).length : Int)) = ((M.take 32).length : Int) by rw [w64 (by omega) (by omega)]; omega] at r4
    have s4 : Sl eB h4 (some ⟨bb, bo, none⟩) c' M := s2.fr f24 fun q hq e => hp2 q hq e
    have scut := s4.cut (l := (M.take 32).length) (r := M.length) hn3 (Nat.le_refl _)
    rw [List.take_length] at scut
    have hsl1 : Sl eB h4 sl1 (c' - (M.take 32).length) (M.drop (M.take 32).length) := by rw [es1, Int.toNat_natCast]; exact scut
    have hlen' : (M.drop (M.take 32).length).length = M.length - (M.take 32).length := List.length_drop
    have hp4 : ∀ q, blkA sl1 q → q ≠ p := fun q hq => hp2 q (by rw [es1] at hq; exact slA_blk hq)
    rw [Int.toNat_natCast, Int.toNat_natCast]
    refine ⟨_, r4.kept hl3, fun e32 => ?_, fun e32 => ?_⟩
    · have h32 : (M.take 32).length = 32 := by have := eq_of_beq e32; omega
      have hM32 : 32 ≤ M.length := by omega
      have hl4 : M.take 32 ++ l.drop (M.take 32).length = M.take 32 := by rw [h32, List.drop_of_length_le (by omega), List.append_nil]
      rw [hl4] at r4 hl3 bl3
      refine (full_m r4 hl3 bl3).mono ?_
      rintro _ h5 ⟨rfl, f5, r5⟩
      refine ⟨rfl, ⟨M.drop (M.take 32).length, _, _, 0, by rw [hlen'], by omega, hsl1.fr f5 fun q hq e => hp4 q hq e, isB_drop bM _, hp4, hl3, bl3, r5, (f2.trans f24 fun _ _ q => q).trans f5 fun _ _ q => q, .inl ⟨rfl, ?_, ?_⟩⟩, by show _ - _ < M.length; omega⟩
      · rw [h32, ← ln_step hM32]; exact w1
      · rw [h32, List.drop_drop, ← w2, List.length_drop, show 32 + 32 * ((M.length - 32) / 32) = 32 * (M.length / 32) by omega]
    · have h32 : (M.take 32).length ≠ 32 := fun q => by rw [q] at e32; simp at e32
      have hMl : M.length < 32 := by rw [List.length_take] at h32; omega
      have hMt : M.take 32 = M := List.take_of_length_le (by omega)
      have hMt' : (M.take 32).length = M.length := by rw [hMt]
      have q0 : M.length / 32 = 0 := by omega
      rw [q0] at w1 w2
      have w1 : v = FV := w1
      have w2 : M = FT := w2
      refine ⟨⟨M.drop (M.take 32).length, v, _, (M.take 32).length, by rw [hlen'], by omega, hsl1, isB_drop bM _, hp4, hl3, bl3, r4, f2.trans f24 fun _ _ q => q, .inr ⟨by rw [hMt, List.drop_length], by rw [hMt, w2], w1, ?_⟩⟩, by show _ - _ < M.length; omega⟩
      rw [hMt, List.take_left, w2]
  · have hM0 := of_decide_eq_false e
    have hM : M = [] := List.length_eq_zero_iff.1 (by omega)
    subst hM
    obtain ⟨rfl, rfl, h3⟩ := way.done
    rw [hFTl] at h3 r2
    exact ⟨rfl, f2, l, hl2, bl, h3, r2⟩
set_option maxHeartbeats 1600000 in
theorem sum_m {l : List Int} (r : Hs h p s (ln (L.length / 32) (v0 s) L) l ((L.length % 32 : Nat) : Int) (L.length : Int)) (hl0 : l.length = 32) (hbl : isB l) (ht : l.take (L.length % 32) = L.drop (32 * (L.length / 32))) (hl : L.length ≤ 2305843009213693952) :
    HC Try.prog 64 #[ptr p 0] h fun u h' => u = .int .u64 (hL s L) ∧ h' = h := by
  refine f64_sh _ _ _ _ ⟨s, by rw [hcell_row r]; rfl, fun x h1 => h1 = h ∧ x = (if 32 ≤ L.length then mg (ln (L.length / 32) (v0 s) L) else IntKind.u64.wrap (s + 2870177450012600261)), ⟨_, r.tot hl0, fun e => ?_, fun e => ?_⟩, ?_⟩
  · have e := of_decide_eq_true e
    refine (lanes_m r).mono ?_
    rintro _ h2 ⟨rfl, rfl⟩
    exact ⟨_, rfl, rfl, by rw [if_pos (by omega)]⟩
  · have e := of_decide_eq_false e
    exact ⟨rfl, by rw [if_neg (by omega)]⟩
  rintro x h1 ⟨rfl, rfl⟩
  refine ⟨_, r.tot hl0, _, r.kept hl0, by decide, by omega, by omega, fun sl esl => ?_⟩
  have hF : tl8 (IntKind.u64.wrap ((if 32 ≤ L.length then mg (ln (L.length / 32) (v0 s) L) else IntKind.u64.wrap (s + 2870177450012600261)) + IntKind.u64.wrap (L.length : Int))) (L.drop (32 * (L.length / 32))) = hL s L := rfl
  rw [uW (x := (L.length : Int)) ⟨by omega, by omega⟩] at hF
  generalize IntKind.u64.wrap ((if 32 ≤ L.length then mg (ln (L.length / 32) (v0 s) L) else IntKind.u64.wrap (s + 2870177450012600261)) + (L.length : Int)) = x0 at *
  generalize hF0 : hL s L = F at *
  have hTl : (L.drop (32 * (L.length / 32))).length = L.length % 32 := by rw [List.length_drop]; omega
  have bT : isB (L.drop (32 * (L.length / 32))) := by rw [← ht]; exact isB_take hbl _
  have esl' : sl = some ⟨p, 5, none⟩ := by rw [esl]; unfold slA; rw [if_neg (by decide)]; rfl
  have s0 : Sl eB h1 (some ⟨p, 5, none⟩) 32 (L.drop (32 * (L.length / 32))) := by
    rw [← ht]
    refine Sl.of_row r (by rw [List.length_take]; omega) fun j v hj => ?_
    rw [flatB] at hj
    have hj2 : (l.map (Value.int .u8))[j]? = some v := by
      rw [List.map_take, List.getElem?_take] at hj
      split at hj
      · exact hj
      · cases hj
    have := r.left.get hj2
    rw [hcell_row r] at this; exact this
  generalize L.drop (32 * (L.length / 32)) = T at *
  rw [esl']
  refine ⟨fun x b n c => ∃ M : List Int, n = M.length ∧ M.length ≤ 32 ∧ Sl eB h1 b c M ∧ isB M ∧ tl8 x M = F, fun _ _ n _ => n, ⟨T, by rw [hTl, Int.toNat_natCast]; rfl, by omega, s0, bT, hF⟩, ?_⟩
  rintro x b _ c ⟨M, rfl, hM, sM, bM, hF⟩
  have cut : ∀ (m : Nat) {b1 : Option Addr}, m ≤ M.length → b1 = slA b m 1 c → Sl eB h1 b1 (c - m) (M.drop m) := fun m b1 hm e => by
    have := sM.cut (l := m) (r := M.length) hm (Nat.le_refl _)
    rw [List.take_length] at this
    rw [e]; exact this
  refine ⟨fun e => ?_, fun e => ?_⟩
  · have e8 := of_decide_eq_true e
    obtain ⟨bb, bo, rfl, hc⟩ := sl_cells sM (by omega)
    have h8 : (M.take 8).length = 8 := by rw [List.length_take]; omega
    have hc8 : HCells h1 bb bo ((M.take 8).map (Value.int .u8)) := by have := cells_sub hc 0 8; simpa using this
    refine ⟨_, word_m (L := M.take 8) (by rw [h8]; rfl) (isB_take bM _) hc8 (by omega) (by omega), _, rnd_m _ _ h1, _, rol_m 27 (by decide) _ h1, by decide, by omega, by have := sM.le; omega, fun sl1 es1 => ?_⟩
    rw [tl8_step (by omega)] at hF
    refine ⟨⟨M.drop 8, by rw [List.length_drop]; rfl, by rw [List.length_drop]; omega, cut 8 (by omega) es1, isB_drop bM _, hF⟩, by show Int.toNat _ - Int.toNat _ < M.length; omega⟩
  · have e8 := of_decide_eq_false e
    rw [tl8_small (by omega)] at hF
    have fin_ : ∀ (y : Int) (b' : Option Addr) (c' : Nat) (M' : List Int), Sl eB h1 b' c' M' → M'.length ≤ 32 → tl1 y M' = F → (∃ (I36 : Int → Int → Prop) (mu37 : Int → Int → Nat), I36 y 0 ∧
              (∀ (x_7 : Int) (v : Int), I36 x_7 v →
               (((decide (v < (M'.length : Int))) = true →
                 (∃ b_1_b b_1_o : Nat, b' = some ⟨b_1_b, b_1_o, none⟩ ∧
                  (0 : Int) ≤ v ∧ v < (M'.length : Int) ∧
                  (∃ x_8 : Int, hcell h1 b_1_b (b_1_o + (Int.toNat v) * 1) = some (.int .u8 x_8) ∧
                   (∃ r_3 : Int, HC Try.prog 76 #[(.int .u64 (ibxor .u64 x_7 (IntKind.u64.wrap ((IntKind.u64.wrap x_8) * 2870177450012600261)))), (.int .i64 11)] h1 (fun vv h' => vv = (.int .u64 r_3) ∧ h' = h1) ∧
                    (I36 (IntKind.u64.wrap (r_3 * 11400714785074694791)) (IntKind.i64.wrap (v + 1)) ∧ mu37 (IntKind.u64.wrap (r_3 * 11400714785074694791)) (IntKind.i64.wrap (v + 1)) < mu37 x_7 v))))) ∧
                ((decide (v < (M'.length : Int))) = false → (Value.int .u64 (fin x_7) = .int .u64 F ∧ h1 = h1))))) := by
      intro y b' c' M' sM' hM' hy
      refine ⟨fun x q => ∃ p : Nat, q = p ∧ p ≤ M'.length ∧ tl1 x (M'.drop p) = F, fun _ q => M'.length - q.toNat, ⟨0, rfl, Nat.zero_le _, hy⟩, ?_⟩
      rintro x _ ⟨p, rfl, hp, hF⟩
      refine ⟨fun e => ?_, fun e => ?_⟩
      · have hlt := lt_of_dec e
        obtain ⟨bb, bo, rfl, hc⟩ := sl_cells sM' (by omega)
        refine ⟨bb, bo, rfl, by omega, by omega, M'[p], ?_, _, rol_m 11 (by decide) _ h1, ?_⟩
        · rw [Int.toNat_natCast, Nat.mul_one]; exact cell_u8 hc hlt
        · rw [wadd p (by omega)]
          refine ⟨⟨p + 1, rfl, hlt, ?_⟩, by show M'.length - Int.toNat _ < M'.length - Int.toNat _; omega⟩
          rw [List.drop_eq_getElem_cons hlt] at hF
          exact hF
      · have hge := ge_of_dec e
        rw [List.drop_of_length_le hge] at hF
        exact ⟨by rw [← hF]; rfl, rfl⟩
    unfold tl4 at hF
    by_cases h4 : 4 ≤ M.length
    · rw [if_pos h4] at hF
      have h4' : (M.take 4).length = 4 := by rw [List.length_take]; omega
      refine ⟨s4 x (wd (M.take 4)), slA b 4 1 c, (M.drop 4).length, c - 4, ⟨fun _ => ?_, fun e4 => ?_⟩, fin_ _ _ (c - 4) (M.drop 4) (cut 4 h4 rfl) (by rw [List.length_drop]; omega) hF⟩
      · obtain ⟨bb, bo, rfl, hc⟩ := sl_cells sM (by omega)
        have hc4 : HCells h1 bb bo ((M.take 4).map (Value.int .u8)) := by have := cells_sub hc 0 4; simpa using this
        exact ⟨_, word_m (L := M.take 4) (by rw [h4']; rfl) (isB_take bM _) hc4 (by omega) (by omega), _, rol_m 23 (by decide) _ h1, by decide, by omega, by have := sM.le; omega, fun sl1 es1 => ⟨rfl, es1.symm, by rw [List.length_drop]; rfl, rfl⟩⟩
      · have := of_decide_eq_false e4; omega
    · rw [if_neg h4] at hF
      refine ⟨x, b, M.length, c, ⟨fun e4 => ?_, fun _ => ⟨rfl, rfl, rfl, rfl⟩⟩, fin_ _ _ c M sM hM hF⟩
      have := of_decide_eq_true e4; omega
theorem hash_m (sl : Sl eB h a c L) (hb : isB L) (hl : L.length ≤ 2305843009213693952) (ha : ∀ q, blkA a q → q < h.size) (sd : Int) : HC Try.prog 50 #[.int .u64 sd, .slice a L.length c] h fun v h' => v = .int .u64 (hL sd L) ∧ Ext h h' := by
  refine f50_sh _ _ _ _ _ _ (f62_sh _ _ _ fun nb h1 en e1 => ⟨_, rfl, ?_⟩)
  have x1 : Ext h h1 := by rw [e1]; exact Ext.push _ _
  have r1 : Hs h1 nb sd (v0 sd) (List.replicate 32 0) 0 0 := by
    show h1[nb]? = _
    rw [e1]; exact push_new en
  refine (write_m r1 (by simp) (fun x hx => by rw [(List.mem_replicate.1 hx).2]; decide) (sl.ext x1) hb hl fun q hq e => by have := ha q hq; omega).mono ?_
  rintro _ h2 ⟨rfl, f2, l, hl2, bl, ht, r2⟩
  refine ⟨rfl, (sum_m r2 hl2 bl ht hl).mono ?_⟩
  rintro _ h3 ⟨rfl, rfl⟩
  exact ⟨_, rfl, rfl, ((x1.fr _).trans f2 fun _ _ q => q).ext fun i hi q => by omega⟩
def hsh (k : ByteArray) : Int := hL 0 (toL k)
theorem text_sl {k : ByteArray} {nb cap : Nat} {h h1 : Heap} {T : TypeId} (en : nb = h.size) (hc : k.size ≤ cap) (e : h1 = h.push (.cells ((toL k).map (Value.int .u8) ++ List.replicate (cap - k.size) (Value.int .u8 0)).toArray T (cap, cap + 1))) : Sl eB h1 (some ⟨nb, 0, none⟩) cap (toL k) := by
  have r : h1[nb]? = some (.cells ((toL k).map (Value.int .u8) ++ List.replicate (cap - k.size) (Value.int .u8 0)).toArray T (cap, cap + 1)) := by rw [e]; exact push_new en
  refine Sl.of_row r (by rw [toL_len]; exact hc) fun j v hj => ?_
  rw [flatB] at hj
  rw [Nat.zero_add, List.getElem?_toArray, List.getElem?_append_left (List.getElem?_eq_some_iff.1 hj).1]; exact hj
theorem key_m (k : ByteArray) (hk : k.size ≤ 2305843009213693952) (h : Heap) : HC Try.prog 34 #[.string k] h fun v h' => v = .int .u64 (hsh k) ∧ Ext h h' := by
  refine f34_sh _ _ _ ⟨by omega, fun nb cap h1 en hc _ e => ?_⟩
  have sl := text_sl en hc e
  have hlen := toL_len k
  have := hash_m sl (toL_isB k) (by omega) (fun q hq => by rw [blkA_some] at hq; rw [e, hq, en]; simp) 0
  rw [hlen] at this
  refine this.mono ?_
  rintro _ h2 ⟨rfl, x2⟩
  exact ⟨x2, _, rfl, rfl, Ext.trans (by rw [e]; exact Ext.push _ _) x2⟩
theorem key_r (k : ByteArray) (hk : k.size ≤ 2305843009213693952) (h : Heap) : HC Try.prog 36 #[.string k] h fun v h' => v = .int .u64 (hsh k) ∧ Ext h h' := by
  refine f36_sh _ _ _ ⟨by omega, fun nb cap h1 en hc _ e => ?_⟩
  have sl := text_sl en hc e
  have hlen := toL_len k
  have := hash_r sl (by omega) 0
  rw [hlen] at this
  refine this.mono ?_
  rintro _ h2 ⟨rfl, x2⟩
  exact ⟨x2, _, rfl, rfl, Ext.trans (by rw [e]; exact Ext.push _ _) x2⟩
end
end Cy
end Go.Proofs.Ytcdpapdefdnknaa
