import Derived.Lib.QuoteLoop
import Derived.Lib.MapLaws
import Derived.Shelf.Strconv.Quote
import Derived.Lib.LaidTab
import Derived.Lib.LaidPrint
import Derived.Lib.LaidU8
import Derived.Stop.LaidErr
import Derived.Test.YtfjcciaabkjkgaaGreatDoorProg
import Derived.Test.YtfjcciaabkjkgaaGreatDoorRows
import Derived.Test.YtfjcciaabkjkgaaGreatDoorPy1
import Derived.Test.YtfjcciaabkjkgaaGreatDoorPy2
import Derived.Test.YtfjcciaabkjkgaaGreatDoorPy3
import Derived.Test.YtfjcciaabkjkgaaGreatDoorPy4
import Derived.Test.YtfjcciaabkjkgaaGreatDoorPy5
namespace Go.Proofs.YtfjcciaabkjkgaaGreatDoor
open Go Ml
namespace Ml
section
variable {l : List Mv} {Lt Nn : List Nat} {st : Fam} {k : Nat}
def strike (Lt : List Nat) (k : Nat) : List Nat := Lt.take k ++ Lt.drop (k + 1)
theorem strike_eq : strike Lt k = Lt.eraseIdx k := (List.eraseIdx_eq_take_drop_succ ..).symm
theorem strike_len (hk : k < Lt.length) : (strike Lt k).length + 1 = Lt.length := by rw [strike_eq, List.length_eraseIdx_of_lt hk]; omega
theorem strike_sub {x : Nat} (h : x ∈ strike Lt k) : x ∈ Lt := by rw [strike_eq] at h; exact List.mem_of_mem_eraseIdx h
theorem strike_lt (hs : Lt.Pairwise (· < ·)) : (strike Lt k).Pairwise (· < ·) := by rw [strike_eq]; exact hs.sublist (List.eraseIdx_sublist ..)
theorem lt_nodup (hs : Lt.Pairwise (· < ·)) : Lt.Nodup := hs.imp fun h e => by omega
theorem strike_del (hs : Lt.Pairwise (· < ·)) (hk : k < Lt.length) : (fun x => x ∈ strike Lt k) = del (fun x => x ∈ Lt) Lt[k] := by
  funext x
  apply propext
  rw [strike_eq, List.mem_eraseIdx_iff_getElem]
  have hp := List.pairwise_iff_getElem.1 hs
  constructor
  · rintro ⟨i, hi, hne, rfl⟩
    refine ⟨List.getElem_mem hi, fun e => ?_⟩
    rcases Nat.lt_trichotomy i k with q | q | q
    · have := hp i k hi hk q; omega
    · exact hne q
    · have := hp k i hk hi q; omega
  · rintro ⟨hx, hne⟩
    obtain ⟨i, hi, rfl⟩ := List.getElem_of_mem hx
    exact ⟨i, hi, fun e => by subst e; exact hne rfl, rfl⟩
theorem first_ok (hs : Lt.Pairwise (· < ·)) (hk : k < Lt.length) (hn : ∀ j (hj : j < Lt.length), j < k → ¬ Ok l (fun x => x ∈ Lt) st Lt[j]) : ∀ j, j < Lt[k] → ¬ Ok l (fun x => x ∈ Lt) st j := fun j hj h => by
  obtain ⟨q, hq, rfl⟩ := List.getElem_of_mem (show j ∈ Lt from h.1.1)
  refine hn q hq ?_ h
  rcases Nat.lt_trichotomy q k with r | r | r
  · exact r
  · subst r; omega
  · have := List.pairwise_iff_getElem.1 hs k q hk hq r; omega
structure Pln (l : List Mv) (Nn Lt O : List Nat) (K : Str → Prop) (lf : Str → Nat) (st : Fam) : Prop where
  lt : Lt.Pairwise (· < ·)
  sub : ∀ x ∈ Lt, x ∈ Nn
  gr : ∀ t, Gr l (fun x => x ∈ Lt) st t → Gr l (fun x => x ∈ Nn) stX (O ++ t)
  cmp : ∀ key, Cmp l (ofK l (fun x => x ∈ Lt) key) st
  left : ∀ key, K key → Rm (ownK l Nn key) (lf key) = ofK l (fun x => x ∈ Lt) key
  len : O.length + Lt.length = Nn.length
section
variable {O : List Nat} {K : Str → Prop} {lf lf' : Str → Nat}
theorem Pln.start (hs : Nn.Pairwise (· < ·)) (hK : ∀ key, K key → lf key = 2 ^ (ownK l Nn key).length - 1 ∧ Cmp l (fun x => x ∈ ownK l Nn key) stX) (hall : ∀ x ∈ Nn, keyed (mv l x) = true → K (mv l x).key) : Pln l Nn Nn [] K lf stX := by
  refine ⟨hs, fun _ h => h, fun t h => h, fun key => ?_, fun key hk => ?_, by simp⟩
  · by_cases q : ∃ x, ofK l (fun x => x ∈ Nn) key x
    · obtain ⟨x, hx, h1, h2⟩ := q
      have := (hK key (h2 ▸ hall x hx h1)).2
      rw [ownK_mem] at this; exact this
    · exact .done fun i hi => q ⟨i, hi⟩
  · rw [(hK key hk).1, rm_all, ownK_mem]
theorem Pln.step (P : Pln l Nn Lt O K lf st) (hk : k < Lt.length) (ok : Ok l (fun x => x ∈ Lt) st Lt[k]) (hn : ∀ j (hj : j < Lt.length), j < k → ¬ Ok l (fun x => x ∈ Lt) st Lt[j])
    (hl : ∀ key, K key → Rm (ownK l Nn key) (lf' key) = ofK l (del (fun x => x ∈ Lt) Lt[k]) key) : Pln l Nn (strike Lt k) (O ++ [Lt[k]]) K lf' (upd st (mv l Lt[k])) := by
  refine ⟨strike_lt P.lt, fun x hx => P.sub x (strike_sub hx), ?_, fun key => ?_, fun key q => ?_, ?_⟩
  · rw [strike_del P.lt hk]
    exact gr_step P.gr ok (first_ok P.lt hk hn)
  · rw [strike_del P.lt hk]
    exact ok.2.2.ofK key
  · rw [strike_del P.lt hk]; exact hl key q
  · have := strike_len hk; have := P.len
    simp only [List.length_append, List.length_singleton]
    omega
end
end
end Ml
structure Lst (Pm : List Mt → Prop) (nm : Nat → List Mt → Str) (h0 : Heap) (lb mb N2 N1 : Nat) (l : List Mv) (la : Option Addr) (lc : Nat) (Nn : List Nat) (K : Str → Prop) (left : Option Addr) (cL : Nat) (out : Option Addr) (cO : Nat) (h : Heap) (Lt O : List Nat) (σ : Str → SgR) (st : Fam) : Prop where
  x : Ext h0 h
  rl : h[lb]? = some (.cells #[.slice la l.length lc] 22 (0, 0))
  sL : Sl eN h left cL Lt
  wL : Own eN.k 3 N2 h left cL
  bL : ∀ b, blkA left b → b < N1
  sO : Sl eN h out cO O
  wO : Own eN.k 3 N1 h out cO
  n1 : N1 ≤ h.size
  sg : Sgs Pm nm h0.size h mb l Nn σ K st
  tl : ∀ key, K key → (σ key).t < N2
  ord : h0.size ≤ lb ∧ lb < mb ∧ mb < N2 ∧ N2 ≤ N1
section
variable {Pm : List Mt → Prop} {nm : Nat → List Mt → Str} {h0 h h' : Heap} {lb mb N2 N1 lc cL cO : Nat} {l : List Mv} {la left out : Option Addr} {Nn Lt O : List Nat} {K : Str → Prop} {σ : Str → SgR} {st : Fam}
theorem Lst.ext (S : Lst Pm nm h0 lb mb N2 N1 l la lc Nn K left cL out cO h Lt O σ st) (x : Ext h h') : Lst Pm nm h0 lb mb N2 N1 l la lc Nn K left cL out cO h' Lt O σ st :=
  ⟨S.x.trans x, x.row S.rl, S.sL.ext x, S.wL.ext x, S.bL, S.sO.ext x, S.wO.ext x, Nat.le_trans S.n1 x.size, S.sg.ext x, S.tl, S.ord⟩
theorem Lst.turn (S : Lst Pm nm h0 lb mb N2 N1 l la lc Nn K left cL out cO h Lt O σ st) {key : Str} (hK : K key) (f : Fr (fun b => b = (σ key).m ∨ b = (σ key).t) h h') {σ' : Str → SgR} {st' : Fam} (sg : Sgs Pm nm h0.size h' mb l Nn σ' K st') (ht : ∀ k, (σ' k).t = (σ k).t) :
    Lst Pm nm h0 lb mb N2 N1 l la lc Nn K left cL out cO h' Lt O σ' st' := by
  obtain ⟨G, q⟩ := S.sg.stg key hK
  have b1 := G.srh.mB; have b2 := G.bt; have b3 := G.srh.pB; have b4 := S.tl key hK; have b5 := S.ord
  have nL : ∀ b, blkA left b → ¬ (b = (σ key).m ∨ b = (σ key).t) := fun b hb q => by have := (S.wL.low hb).1; omega
  have nO : ∀ b, blkA out b → ¬ (b = (σ key).m ∨ b = (σ key).t) := fun b hb q => by have := (S.wO.low hb).1; omega
  exact ⟨ext_fr S.x f fun b hb => by omega, f.row S.rl (by omega), S.sL.fr f nL, S.wL.fr f nL, S.bL, S.sO.fr f nO, S.wO.fr f nO, Nat.le_trans S.n1 f.size, sg, fun k hk => by rw [ht]; exact S.tl k hk, S.ord⟩
theorem Lst.outs (S : Lst Pm nm h0 lb mb N2 N1 l la lc Nn K left cL out cO h Lt O σ st) (f : Fr (blkA out) h h') {out' : Option Addr} {cO' : Nat} {O' : List Nat} (s : Sl eN h' out' cO' O') (w : Own eN.k 3 N1 h' out' cO') :
    Lst Pm nm h0 lb mb N2 N1 l la lc Nn K left cL out' cO' h' Lt O' σ st := by
  have b5 := S.ord
  have nL : ∀ b, blkA left b → ¬ blkA out b := fun b hb q => by have := (S.wO.low q).1; have := S.bL b hb; omega
  exact ⟨ext_fr S.x f fun b hb => by have := (S.wO.low hb).1; omega, f.row S.rl fun hb => by have := (S.wO.low hb).1; omega, S.sL.fr f nL, S.wL.fr f nL, S.bL, s, w, Nat.le_trans S.n1 f.size,
    S.sg.off f S.wO (by decide) (by omega) fun key hk => by have := S.tl key hk; omega, S.tl, S.ord⟩
theorem Lst.lefts (S : Lst Pm nm h0 lb mb N2 N1 l la lc Nn K left cL out cO h Lt O σ st) (f : Fr (blkA left) h h') {left' : Option Addr} {cL' : Nat} {Lt' : List Nat} (s : Sl eN h' left' cL' Lt') (w : Own eN.k 3 N2 h' left' cL') (hb' : ∀ b, blkA left' b → blkA left b) :
    Lst Pm nm h0 lb mb N2 N1 l la lc Nn K left' cL' out cO h' Lt' O σ st := by
  have b5 := S.ord
  have nO : ∀ b, blkA out b → ¬ blkA left b := fun b hb q => by have := (S.wO.low hb).1; have := S.bL b q; omega
  exact ⟨ext_fr S.x f fun b hb => by have := (S.wL.low hb).1; omega, f.row S.rl fun hb => by have := (S.wL.low hb).1; omega, s, w, fun b hb => S.bL b (hb' b hb), S.sO.fr f nO, S.wO.fr f nO, Nat.le_trans S.n1 f.size,
    S.sg.off f S.wL (by decide) (by omega) S.tl, S.tl, S.ord⟩
end
end Go.Proofs.YtfjcciaabkjkgaaGreatDoor
namespace Go.Proofs.YtfjcciaabkjkgaaGreatDoor
open Go Ml
def Ml.KeyK (l : List Mv) (L : List Nat) (key : Str) : Prop := ∃ i ∈ L, keyed (mv l i) = true ∧ (mv l i).key = key
theorem keyK_succ {l : List Mv} {Nn : List Nat} {k : Nat} (hk : k < Nn.length) {key : Str} : KeyK l (Nn.take (k + 1)) key ↔ KeyK l (Nn.take k) key ∨ (keyed (mv l Nn[k]) = true ∧ (mv l Nn[k]).key = key) := by
  unfold KeyK
  rw [List.take_add_one, List.getElem?_eq_getElem hk]
  constructor
  · rintro ⟨i, hi, q⟩
    rcases List.mem_append.1 hi with hi | hi
    · exact .inl ⟨i, hi, q⟩
    · have : i = Nn[k] := by simpa using hi
      subst this; exact .inr q
  · rintro (⟨i, hi, q⟩ | q)
    · exact ⟨i, List.mem_append_left _ hi, q⟩
    · exact ⟨Nn[k], List.mem_append_right _ (by simp), q⟩
theorem fit_ext : Fit Ext := ⟨fun _ _ x => x, fun _ _ _ x y => x.trans y⟩
structure Fsl (Pm : List Mt → Prop) (nm : Nat → List Mt → Str) (h0 : Heap) (lb mb : Nat) (l : List Mv) (la : Option Addr) (lc : Nat) (Nn : List Nat) (K : Str → Prop) (h : Heap) (σ : Str → SgR) : Prop where
  x : Ext h0 h
  rl : h[lb]? = some (.cells #[.slice la l.length lc] 22 (0, 0))
  sg : Sgs Pm nm h0.size h mb l Nn σ K stX
  tl : ∀ key, K key → (σ key).t < h.size
  al : ∀ key, K key → (σ key).left = 2 ^ (ownK l Nn key).length - 1 ∧ Cmp l (fun x => x ∈ ownK l Nn key) stX
theorem Fsl.ext {Pm : List Mt → Prop} {nm : Nat → List Mt → Str} {h0 h h' : Heap} {lb mb lc : Nat} {l : List Mv} {la : Option Addr} {Nn : List Nat} {K : Str → Prop} {σ : Str → SgR} (F : Fsl Pm nm h0 lb mb l la lc Nn K h σ) (x : Ext h h') : Fsl Pm nm h0 lb mb l la lc Nn K h' σ :=
  ⟨F.x.trans x, x.row F.rl, F.sg.ext x, fun key hk => Nat.lt_of_lt_of_le (F.tl key hk) x.size, F.al⟩
set_option maxHeartbeats 16000000 in
theorem least_c {Tb : Heap → Prop} {Pm : List Mt → Prop} {nm : Nat → List Mt → Str} {l : List Mv} (M : ∀ h, Tb h → Nmr h.size Tb Pm nm l) : LeastC Tb l := by
  intro h la na lc nc Nn tb hc sl sn hs hin hle
  have M := M h tb
  have hll := M.ll
  have ht : ∀ i, i < l.length → okT (mv l i) := fun i hi => (check_okT (hc _ (by rw [mv_at hi]; exact List.getElem_mem hi))).1
  have hnd := lt_nodup hs
  refine f26_sh _ _ _ _ _ _ _ _ fun lb h1 e1 eh1 mb h2 e2 x2 z2 m2 => ?_
  have x1 : Ext h h1 := by rw [eh1]; exact Ext.push _ _
  have r1 : h1[lb]? = some (.cells #[.slice la l.length lc] 22 (0, 0)) := by rw [eh1]; exact push_new e1
  have z1 : h1.size = h.size + 1 := by rw [eh1]; simp
  clear eh1
  refine ⟨fun v hh => ∃ (k : Nat) (σ : Str → SgR), v = k ∧ k ≤ Nn.length ∧ Fsl Pm nm h lb mb l la lc Nn (KeyK l (Nn.take k)) hh σ, fun v _ => Nn.length - v.toNat,
    ⟨0, fun _ => ⟨0, 0, 0, 0, 0, 0⟩, rfl, Nat.zero_le _, x1.trans x2, x2.row r1, Sgs.nil m2 (by omega) (fun key q => by obtain ⟨i, hi, _⟩ := q; simp at hi), fun key q => by (obtain ⟨i, hi, _⟩ := q; simp at hi), fun key q => by (obtain ⟨i, hi, _⟩ := q; simp at hi)⟩, ?_⟩
  rintro _ h3 ⟨k, σ, rfl, hk, F⟩
  refine ⟨fun hlt => ?_, fun hge => ?_⟩
  · have hkl := lt_of_dec hlt
    have hiN : Nn[k] ∈ Nn := List.getElem_mem hkl
    have hil := hin _ hiN
    have hl0 : 0 < l.length := by omega
    have emv : mv l Nn[k] = l[Nn[k]] := mv_at hil
    obtain ⟨nb, no, en, dn⟩ := (sn.ext F.x).at (List.getElem?_eq_getElem hkl)
    subst en
    refine ⟨fun h4 => ∃ σ', Fsl Pm nm h lb mb l la lc Nn (KeyK l (Nn.take (k + 1))) h4 σ', ⟨nb, no, rfl, by omega, by omega, _, dn.1, fun i h5 ei eh5 => ?_⟩, ?_⟩
    rotate_left
    · rintro h4 ⟨σ', F'⟩
      rw [wadd k (by omega)]
      exact ⟨⟨k + 1, σ', rfl, hkl, F'⟩, by simp only [Int.toNat_natCast]; omega⟩
    have r5 : h5[i]? = some (.cells #[.int .i64 0] 3 (0, 0)) := by rw [eh5]; exact push_new ei
    have x5 : Ext h3 h5 := by rw [eh5]; exact Ext.push _ _
    clear eh5
    refine ⟨HW_row r5 (by simp), fun h6 e6 => ?_⟩
    have x6 : Ext h3 h6 := ext_hset e6 x5 (by omega)
    have ri : h6[i]? = some (.cells #[.int .i64 (Nn[k] : Nat)] 3 (0, 0)) := by rw [e6, hset_row r5]; rfl
    clear e6
    have F6 := F.ext x6
    have rl6 := F6.rl
    obtain ⟨kv, mk, hkv⟩ := F6.sg.map
    obtain ⟨vb, vo, ela, dl⟩ := (sl.ext F6.x).at (List.getElem?_eq_getElem hil)
    obtain ⟨j, hj⟩ : ∃ j : Bool, (j = true ↔ keyed (mv l Nn[k]) = true ∧ ¬ KeyK l (Nn.take k) (mv l Nn[k]).key) := by
      by_cases q : keyed (mv l Nn[k]) = true ∧ ¬ KeyK l (Nn.take k) (mv l Nn[k]).key
      · exact ⟨true, fun _ => q, fun _ => rfl⟩
      · exact ⟨false, fun e => (by cases e), fun e => absurd e q⟩
    refine ⟨j, ⟨la, _, lc, by rw [hcell_row rl6]; rfl, ((Nn[k] : Nat) : Int), by rw [hcell_row ri]; rfl, vb, vo, ela, by omega, by omega, _, _, _, _, _, _, _, _, dl.1, dl.2.1, dl.2.2.1, dl.2.2.2.1, dl.2.2.2.2.1, dl.2.2.2.2.2.1, dl.2.2.2.2.2.2.1, dl.2.2.2.2.2.2.2.1, fun g => ?_, fun g => ?_⟩, fun ej h7 x7 => ?_, fun ej h7 x7 => ?_⟩
    · have g : keyed (mv l Nn[k]) = true := by rw [emv]; exact g
      have hv := hkv (mv l Nn[k]).key
      by_cases q : KeyK l (Nn.take k) (mv l Nn[k]).key
      · have hv := hv.1 q
        rw [emv] at hv
        refine ⟨kv, mk, some ⟨(σ l[Nn[k]].key).t, 0, none⟩, ?_, ?_⟩
        · show (lk kv l[Nn[k]].key).getD _ = _
          rw [hv]; rfl
        · cases j with
          | false => rfl
          | true => exact absurd q (hj.1 rfl).2
      · have hv := hv.2 q
        rw [emv] at hv
        refine ⟨kv, mk, none, ?_, ?_⟩
        · show (lk kv l[Nn[k]].key).getD _ = _
          rw [hv]; rfl
        · exact hj.2 ⟨g, q⟩
    · have g : keyed (mv l Nn[k]) = false := by rw [emv]; exact g
      cases j with
      | false => rfl
      | true => have := (hj.1 rfl).1; rw [g] at this; cases this
    · -- a stage is made
      obtain ⟨g, q⟩ := hj.1 ej
      generalize hkey : (mv l Nn[k]).key = key at *
      have F7 := F6.ext x7
      have ri7 := x7.row ri
      have sl7 := sl.ext F7.x
      have hla : ∀ b, blkA la b → b < h.size := fun b hb => sl_lt (by decide) sl hl0 hb
      have zi := row_lt ri7
      have zl := row_lt F7.rl
      have mk7 := mk.ext x7
      have zm := mk7.lt
      refine (clone_n ((sn.ext F6.x).ext x7) (by omega)).mono ?_
      rintro _ h9 ⟨a9, c9, rfl, x9, s9, w9⟩
      refine ⟨a9, _, c9, rfl, (del_n (Q := notOf l Nn[k]) s9 w9 (by omega) fun h' x f hx => ?_).mono ?_⟩
      · have low : ∀ b, b < h7.size → ¬ blkA a9 b := fun b hb q => by have := (w9.low q).1; omega
        have z7 := F7.x.size
        exact notOf_v ((sl7.ext x9).fr f fun b hb => low b (by have := hla b hb; omega)) (by rw [hcell_row (f.row (x9.row F7.rl) (low _ zl))]; rfl) (by rw [hcell_row (f.row (x9.row ri7) (low _ zi))]; rfl) (hin x hx) hil
      rintro _ h10 ⟨f10, oa, oc, rfl, so, wo, bo⟩
      have z7 := F7.x.size
      have low : ∀ b, blkA a9 b → h7.size ≤ b := fun b hb => (w9.low hb).1
      have x10 : Ext h7 h10 := ext_fr x9 f10 low
      rw [ownK_keep, hkey] at so ⊢
      have hio : Nn[k] ∈ ownK l Nn key := by
        unfold ownK
        rw [List.mem_filter]
        exact ⟨hiN, by simp [g, hkey]⟩
      have hol : (ownK l Nn key).length ≤ Nn.length := List.length_filter_le ..
      have hod : (ownK l Nn key).Nodup := hnd.sublist List.filter_sublist
      have hone : OfOne l (ownK l Nn key) key := fun x hx => by
        unfold ownK at hx
        rw [List.mem_filter] at hx
        simpa using hx.2
      have hoin : ∀ x ∈ ownK l Nn key, x ∈ Nn := fun x hx => by
        unfold ownK at hx
        rw [List.mem_filter] at hx
        exact hx.1
      refine ⟨oa, _, oc, rfl, la, _, lc, by rw [hcell_row (x10.row F7.rl)]; rfl, (srh_new (nm := nm) (N := h.size) (lo := h7.size) (key := key) (sl7.ext x10) hla so (fun b hb => low b (bo b hb)) z7 x10.size (List.length_pos_of_mem hio) (by omega) (fun x hx => hin x (hoin x hx)) hll hod hone).mono ?_⟩
      rintro _ h11 ⟨x11, p, ms, rfl, S11⟩
      refine ⟨some ⟨p, 0, none⟩, rfl, (shown_c M S11 (M.ext (F7.x.trans (x10.trans x11)) tb)).mono ?_⟩
      rintro _ h12 ⟨r, rfl, hr, f12, S12⟩
      have x12 : Ext h7 h12 := ext_fr (x10.trans x11) f12 fun b hb => by rw [hb]; exact S11.mB.1
      refine ⟨r, rfl, fun e => ?_, fun e => ?_⟩
      · refine ⟨F7.x.trans x12, [], _, none, 0, rfl, Sl.nil _ _, .inr ⟨rfl, rfl, fun c => ?_⟩, fun b hb => (blkA_none hb).elim⟩
        have := c.ofK key
        rw [← ownK_mem] at this
        rw [hr.2 this] at e; cases e
      have hshown := hr.1 (by simpa using e)
      have rl12 := x12.row F7.rl
      have ri12 := x12.row ri7
      have dl12 := ((sl7.ext x12).at (List.getElem?_eq_getElem hil))
      obtain ⟨vb2, vo2, ela2, dl2⟩ := dl12
      rw [ela] at ela2; cases ela2
      refine ⟨Ext, fit_ext, la, _, lc, fun hx x => by rw [hcell_row (x.row rl12)]; rfl, ((Nn[k] : Nat) : Int), fun hx x => by rw [hcell_row (x.row ri12)]; rfl, vb, vo, ela, by omega, by omega, _, fun hx x => x.cell dl2.2.1, (all_c S12).mono ?_⟩
      rintro _ h13 ⟨⟨z, rfl, hz⟩, e13⟩
      subst e13
      refine ⟨Ext.refl _, _, rfl, (start_c _).mono ?_⟩
      rintro _ h14 ⟨a14, c14, rfl, x14, s14, w14⟩
      refine ⟨x14, a14, _, c14, rfl, fun t h15 et eh15 => ?_⟩
      have x15 : Ext h14 h15 := by rw [eh15]; exact Ext.push _ _
      have r15 : h15[t]? = some (.cells #[.pointer (some ⟨p, 0, none⟩), .int .u32 (z : Nat), .slice a14 Ml.start.length c14] 72 (0, 0)) := by rw [eh15]; exact push_new et
      have z15 : h15.size = h14.size + 1 := by rw [eh15]; simp
      clear eh15
      have z11 := x11.size; have z12 := x12.size; have z14 := x14.size; have z10 := x10.size
      have z1112 := f12.size
      have x715 := x12.trans (x14.trans x15)
      have hstg : Stg Pm nm h.size h7.size h11.size h15 t p ms l (ownK l Nn key) key z (stX key) := by
        refine ⟨(S12.ext x14).ext x15, ⟨a14, c14, r15, s14.ext x15, (w14.ext x15).down (by omega)⟩, by rw [hz]; exact all_lt, M.ps, by omega⟩
      have mk15 := mk7.ext x715
      rw [emv] at hkey
      refine ⟨kv, mk15, fun h16 o16 mk16 => ⟨fun k' => if k' = key then ⟨t, p, ms, h7.size, h11.size, z⟩ else σ k', ?_⟩⟩
      have key2 : h15.size = h16.size := o16.size.symm
      have sg16 := (F7.sg.ext x715).add (g := ⟨t, p, ms, h7.size, h11.size, z⟩) hstg (fun k' hk' => F7.tl k' hk') zm q hkv o16 mk15 (by rw [← hkey]; exact mk16)
      have eK : KeyK l (Nn.take (k + 1)) = fun k' => KeyK l (Nn.take k) k' ∨ k' = key := by
        funext k'
        apply propext
        rw [keyK_succ hkl, emv, hkey]
        rw [emv] at g
        exact or_congr Iff.rfl ⟨fun e => e.2.symm, fun e => ⟨g, e.symm⟩⟩
      rw [eK]
      refine ⟨ext_fr (F7.x.trans x715) o16.fr fun b hb => by rw [hb]; omega, o16.fr.row (x715.row F7.rl) (by omega), sg16, fun k' hk' => ?_, fun k' hk' => ?_⟩
      · by_cases e : k' = key
        · simp only [if_pos e]; omega
        · simp only [if_neg e]
          have := F7.tl k' (hk'.resolve_right e)
          omega
      · by_cases e : k' = key
        · subst e; simp only [if_pos]; exact ⟨hz, hshown⟩
        · simp only [if_neg e]; exact F7.al k' (hk'.resolve_right e)
    · -- none is made
      have eK : KeyK l (Nn.take (k + 1)) = KeyK l (Nn.take k) := by
        funext k'
        apply propext
        rw [keyK_succ hkl]
        refine ⟨fun q => q.elim id fun q => Classical.byContradiction fun n => ?_, .inl⟩
        have := hj.2 ⟨q.1, by rw [q.2]; exact n⟩
        rw [ej] at this; cases this
      rw [eK]
      exact ⟨σ, F6.ext x7⟩
  · have hkl : k = Nn.length := by have := ge_of_dec hge; omega
    subst hkl
    rw [List.take_length] at F
    have hKin : ∀ x ∈ Nn, keyed (mv l x) = true → KeyK l Nn (mv l x).key := fun x hx g => ⟨x, hx, g, rfl⟩
    generalize KeyK l Nn = K at F hKin
    refine (clone_n (sn.ext F.x) (by omega)).mono ?_
    rintro _ h17 ⟨a17, c17, rfl, x17, s17, w17⟩
    have z3 := F.x.size; have z17 := x17.size
    have zl := row_lt F.rl
    have zm : mb < h3.size := by obtain ⟨kv, mk, _⟩ := F.sg.map; exact mk.lt
    have S0 : Lst Pm nm h lb mb h3.size h17.size l la lc Nn K a17 c17 none 0 h17 Nn [] σ stX :=
      ⟨F.x.trans x17, x17.row F.rl, s17, w17, fun b hb => (w17.low hb).2, Sl.nil _ _, Own.nil _ _ _ _, Nat.le_refl _, F.sg.ext x17, F.tl, by omega, by omega, zm, z17⟩
    refine ⟨a17, _, c17, rfl, fun left left_n cL out out_n cO hh => ∃ (Lt O : List Nat) (σ : Str → SgR) (st : Fam), left_n = Lt.length ∧ out_n = O.length ∧ Lst Pm nm h lb mb h3.size h17.size l la lc Nn K left cL out cO hh Lt O σ st ∧ Pln l Nn Lt O K (fun key => (σ key).left) st,
      fun _ n _ _ _ _ _ => n, ⟨Nn, [], σ, stX, rfl, rfl, S0, Pln.start hs F.al hKin⟩, ?_⟩
    clear S0
    rintro left _ cL out _ cO h18 ⟨Lt, O, σ1, st, rfl, rfl, S, P⟩
    have hlen := P.len
    have htR : ∀ i, i ∈ Lt → okT (mv l i) := fun i hi => ht i (hin i (P.sub i hi))
    refine ⟨fun gt => ?_, fun le => ?_⟩
    rotate_left
    · have hL : Lt = [] := List.length_eq_zero_iff.1 (by have := of_decide_eq_false le; omega)
      subst hL
      exact ⟨S.x, O, _, out, cO, rfl, S.sO, .inl ⟨rfl, gr_end P.gr fun i q => by cases q⟩, fun b hb => by have := (S.wO.low hb).1; omega⟩
    refine ⟨fun a n c o m q v hh => left = a ∧ Lt.length = n ∧ cL = c ∧ out = o ∧ O.length = m ∧ cO = q ∧ ∃ k : Nat, v = k ∧ k ≤ Lt.length ∧ Lst Pm nm h lb mb h3.size h17.size l la lc Nn K left cL out cO hh Lt O σ1 st ∧ ∀ j (hj : j < Lt.length), j < k → ¬ Ok l (fun x => x ∈ Lt) st Lt[j],
      fun _ _ _ _ _ _ v _ => Lt.length - v.toNat, ⟨rfl, rfl, rfl, rfl, rfl, rfl, 0, rfl, Nat.zero_le _, S, fun j hj q => by omega⟩, ?_⟩
    clear S
    rintro _ _ _ _ _ _ _ h19 ⟨rfl, rfl, rfl, rfl, rfl, rfl, k, rfl, hk, S, hno⟩
    refine ⟨fun hlt => ?_, fun hge => ?_⟩
    rotate_left
    · exfalso
      have hkl : k = Lt.length := by have := ge_of_dec hge; omega
      have hpos : 0 < Lt.length := by have := of_decide_eq_true gt; omega
      obtain ⟨i, hi⟩ := ok_some (R := fun x => x ∈ Lt) (lt_nodup P.lt) (fun _ => Iff.rfl) htR P.cmp ⟨Lt[0], List.getElem_mem hpos⟩
      obtain ⟨q, hq, rfl⟩ := List.getElem_of_mem (show i ∈ Lt from hi.1.1)
      exact hno q hq (by omega) hi
    have hkl := lt_of_dec hlt
    have hiL : Lt[k] ∈ Lt := List.getElem_mem hkl
    have hiN := P.sub _ hiL
    have hil := hin _ hiN
    have emv : mv l Lt[k] = l[Lt[k]] := mv_at hil
    obtain ⟨b, o, eb, d⟩ := S.sL.at (List.getElem?_eq_getElem hkl)
    refine ⟨fun h20 => Lst Pm nm h lb mb h3.size h17.size l la lc Nn K left cL out cO h20 Lt O σ1 st ∧ ¬ Ok l (fun x => x ∈ Lt) st Lt[k], ⟨b, o, eb, by omega, by omega, _, d.1, fun ib h21 ei eh21 => ?_⟩, ?_⟩
    rotate_left
    · rintro h20 ⟨S', hn⟩
      rw [wadd k (by omega)]
      refine ⟨⟨rfl, rfl, rfl, rfl, rfl, rfl, k + 1, rfl, hkl, S', fun j hj q => ?_⟩, by simp only [Int.toNat_natCast]; omega⟩
      rcases Nat.lt_or_ge j k with r | r
      · exact hno j hj r
      · have : j = k := by omega
        subst this; exact hn
    have r21 : h21[ib]? = some (.cells #[.int .i64 0] 3 (0, 0)) := by rw [eh21]; exact push_new ei
    have x21 : Ext h19 h21 := by rw [eh21]; exact Ext.push _ _
    clear eh21
    refine ⟨HW_row r21 (by simp), fun h22 e22 => ?_⟩
    have x22 : Ext h19 h22 := ext_hset e22 x21 (by omega)
    have ri : h22[ib]? = some (.cells #[.int .i64 (Lt[k] : Nat)] 3 (0, 0)) := by rw [e22, hset_row r21]; rfl
    clear e22
    have S22 := S.ext x22
    refine (some_n (Q := fun j => ahB (mv l j) (mv l Lt[k])) S22.sL (by omega) fun h' x xx hx => aheadOf_v (sl.ext (S22.x.trans xx)) (by rw [hcell_row (xx.row S22.rl)]; rfl) (by rw [hcell_row (xx.row ri)]; rfl) (hin x (P.sub x hx)) hil).mono ?_
    rintro _ h23 ⟨rfl, x23⟩
    have S23 := S22.ext x23
    have ri23 := x23.row ri
    refine ⟨_, rfl, fun g => ⟨S23, fun ok => ?_⟩, fun g => ?_⟩
    · obtain ⟨j, hj, hb⟩ := List.any_eq_true.1 g
      exact ok.1.2 j hj (of_decide_eq_true hb)
    have hm : mini l (fun x => x ∈ Lt) Lt[k] := ⟨hiL, fun j hj a => by
      have := List.any_eq_false.1 g j hj
      exact this (decide_eq_true a)⟩
    have okI := ok_iff (st := st) (lt_nodup P.lt) (fun _ => Iff.rfl) htR P.cmp hm
    obtain ⟨kv, mk, hkv⟩ := S23.sg.map
    obtain ⟨vb, vo, ela, dl⟩ := (sl.ext S23.x).at (List.getElem?_eq_getElem hil)
    have hptr : ∃ x4 : Option Addr, (lk kv l[Lt[k]].key).getD (.pointer none) = .pointer x4 ∧ (K l[Lt[k]].key → x4 = some ⟨(σ1 l[Lt[k]].key).t, 0, none⟩) := by
      by_cases q : K l[Lt[k]].key
      · exact ⟨_, by rw [(hkv _).1 q]; rfl, fun _ => rfl⟩
      · exact ⟨none, by rw [(hkv _).2 q]; rfl, fun r => absurd r q⟩
    obtain ⟨x4, hx4, hx4K⟩ := hptr
    refine ⟨la, _, lc, by rw [hcell_row S23.rl]; rfl, ((Lt[k] : Nat) : Int), by rw [hcell_row ri23]; rfl, vb, vo, ela, by omega, by omega, _, dl.2.1, kv, mk, x4, hx4,
      fun j hh => (j = true → Lst Pm nm h lb mb h3.size h17.size l la lc Nn K left cL out cO hh Lt O σ1 st ∧ ¬ Ok l (fun x => x ∈ Lt) st Lt[k]) ∧ (j = false → hcell hh ib 0 = some (.int .i64 (Lt[k] : Nat)) ∧ ∃ σ2 st2, Lst Pm nm h lb mb h3.size h17.size l la lc Nn K left cL out cO hh Lt O σ2 st2 ∧ Pln l Nn (strike Lt k) (O ++ [Lt[k]]) K (fun key => (σ2 key).left) st2),
      ⟨_, _, _, _, _, _, _, _, dl.1, dl.2.1, dl.2.2.1, dl.2.2.2.1, dl.2.2.2.2.1, dl.2.2.2.2.2.1, dl.2.2.2.2.2.2.1, dl.2.2.2.2.2.2.2.1, fun g2 h25 x25 => ?_, fun g2 h25 x25 => ?_⟩, ?_⟩
    · have g2 : keyed (mv l Lt[k]) = true := by rw [emv]; exact g2
      have hK := hKin _ hiN g2
      rw [emv] at hK
      rw [hx4K hK]
      have S25 := S23.ext x25
      have ri25 := x25.row ri23
      generalize hkey : l[Lt[k]].key = key at hK
      have ekey : (mv l Lt[k]).key = key := by rw [emv]; exact hkey
      obtain ⟨G, gq⟩ := S25.sg.stg key hK
      have hio : Lt[k] ∈ ownK l Nn key := by
        unfold ownK
        rw [List.mem_filter]
        exact ⟨hiN, by simp [g2, ekey]⟩
      obtain ⟨kk, ek⟩ := List.getElem?_of_mem hio
      have hl32 : (σ1 key).left < 4294967296 := by
        have h1 := G.lt; have h2 := G.srh.le
        have : 2 ^ (ownK l Nn key).length ≤ 2 ^ 31 := Nat.pow_le_pow_right (by decide) h2
        omega
      refine (takes_c M G (M.ext S25.x tb) S25.x.size ek).mono ?_
      rintro _ h26 ⟨r, rfl, hr, f26, hF, hT⟩
      have eR : Rm (ownK l Nn key) (clr (σ1 key).left kk) = del (ofK l (fun x => x ∈ Lt) key) Lt[k] := by
        rw [rm_clr G.srh.nd hl32 ek, P.left key hK]
      have eU : Ml.upd st (mv l Lt[k]) key = next (st key) (mv l Lt[k]) := by rw [← ekey]; exact upd_own g2
      have hmem : ∀ i, del (ofK l (fun x => x ∈ Lt) key) Lt[k] i → i ∈ ownK l Nn key := fun i hi => by
        unfold ownK
        rw [List.mem_filter]
        exact ⟨P.sub i hi.1.1, by simp [hi.1.2.1, hi.1.2.2]⟩
      have hrok : r = true ↔ Ok l (fun x => x ∈ Lt) st Lt[k] := by
        rw [hr, okI, eR, ekey]
        constructor
        · rintro ⟨a, c⟩ _
          exact ⟨fun _ => by rw [ekey]; exact a, one_congr G.srh.one hmem eU c⟩
        · intro f
          obtain ⟨a, c⟩ := f g2
          exact ⟨by have := a g2; rw [ekey] at this; exact this, one_congr G.srh.one hmem eU.symm c⟩
      refine ⟨r, rfl, fun e => ?_, fun e => ?_⟩
      · have hrf : r = false := by simpa using e
        have e0 : (fun k' => if k' = key then { σ1 key with left := (σ1 key).left } else σ1 k') = σ1 := by
          funext k'
          by_cases q : k' = key
          · subst q; simp only [if_pos]
          · simp only [if_neg q]
        have sg := S25.sg.step hK f26 (hF hrf) (st' := st) rfl fun _ _ => rfl
        rw [e0] at sg
        exact ⟨S25.turn hK f26 sg fun _ => rfl, fun ok => by rw [hrok.2 ok] at hrf; cases hrf⟩
      · have hrt : r = true := by simpa using e
        have ok := hrok.1 hrt
        have sg := S25.sg.step hK f26 (hT hrt) (st' := Ml.upd st (mv l Lt[k])) eU fun k' hk' => upd_other fun q => hk' (by rw [← q.2, ekey])
        have zi := row_lt ri23
        have b1 := G.srh.mB; have b2 := G.bt; have b3 := S25.tl key hK
        have zz := S.n1; have z19 : h19.size ≤ ib := by omega
        refine ⟨?_, _, _, S25.turn hK f26 sg (fun k' => by by_cases q : k' = key <;> simp [q]), P.step hkl ok hno fun k' hk' => ?_⟩
        · have := S.ord
          rw [hcell_row (f26.row ri25 (by omega))]; rfl
        · by_cases q : k' = key
          · subst q
            simp only [if_pos]
            rw [eR, ← ekey, ofK_del_in]
          · simp only [if_neg q]
            rw [P.left k' hk', ofK_del_out fun r => q (by rw [← r.2, ekey])]
    · have g2 : keyed (mv l Lt[k]) = false := by rw [emv]; exact g2
      have nk : ∀ k', ¬ (keyed (mv l Lt[k]) = true ∧ (mv l Lt[k]).key = k') := fun k' q => by rw [g2] at q; cases q.1
      have S25 := S23.ext x25
      have eU : Ml.upd st (mv l Lt[k]) = st := by funext k'; exact upd_other (nk k')
      have P2 := P.step (lf' := fun key => (σ1 key).left) hkl (okI.2 fun q => by rw [g2] at q; cases q) hno fun k' hk' => by rw [ofK_del_out (nk k')]; exact P.left k' hk'
      rw [eU] at P2
      exact ⟨fun e => (by cases e), fun _ => ⟨by rw [hcell_row (x25.row ri23)]; rfl, σ1, st, S25, P2⟩⟩
    · rintro j h24 ⟨hjt, hjf⟩
      refine ⟨hjt, fun e => ?_⟩
      obtain ⟨hci, σ2, st2, S24, P2⟩ := hjf e
      refine ⟨_, hci, fun nb h27 enb eh27 => ?_⟩
      refine app_on (x := Lt[k]) aN enb eh27 rfl S24.sO S24.wO S24.n1 rfl (by omega) fun a' c' h28 f28 s28 w28 => ⟨a', _, c', rfl, ?_⟩
      have S28 := S24.outs f28 s28 w28
      rw [wadd k (by omega)]
      refine (delete_n S28.sL S28.wL (by omega) hkl).mono ?_
      rintro _ h29 ⟨a2, c2, rfl, f29, s29, w29, b29⟩
      refine ⟨a2, _, c2, rfl, ⟨strike Lt k, O ++ [Lt[k]], σ2, st2, rfl, by simp, S28.lefts f29 s29 w29 b29, P2⟩, ?_⟩
      have := strike_len hkl
      show (strike Lt k).length < Lt.length
      omega
end Go.Proofs.YtfjcciaabkjkgaaGreatDoor
namespace Go.Proofs.YtfjcciaabkjkgaaGreatDoor
namespace Ml
open Go.Lib
def unhex (x : Int) : Int := if x < 58 then x - 48 else x - 87
theorem unhex_hex {k : Nat} (h : k < 16) : unhex (Go.Lib.hexDigit k) = k := by
  unfold unhex Go.Lib.hexDigit
  split <;> split <;> omega
def hx : Nat → List Int → Int
  | 0, _ => 0
  | n + 1, l => unhex (l.headD 0) * 16 ^ n + hx n l.tail
def unq (l : List Int) : Int × List Int :=
  if l.headD 0 = 92 then
    (let d := l.tail.headD 0; let t := l.tail.tail
     if d = 34 ∨ d = 92 then (d, t) else if d = 97 then (7, t) else if d = 98 then (8, t) else if d = 102 then (12, t) else if d = 110 then (10, t)
     else if d = 114 then (13, t) else if d = 116 then (9, t) else if d = 118 then (11, t)
     else if d = 120 then (if hx 2 t < 128 then hx 2 t else -1 - hx 2 t, t.drop 2)
     else if d = 117 then (hx 4 t, t.drop 4) else (hx 8 t, t.drop 8))
  else if l.headD 0 < 128 then (l.headD 0, l.drop 1)
  else if l.headD 0 < 224 then ((l.headD 0 - 192) * 64 + (l.getD 1 0 - 128), l.drop 2)
  else if l.headD 0 < 240 then ((l.headD 0 - 224) * 4096 + (l.getD 1 0 - 128) * 64 + (l.getD 2 0 - 128), l.drop 3)
  else ((l.headD 0 - 240) * 262144 + (l.getD 1 0 - 128) * 4096 + (l.getD 2 0 - 128) * 64 + (l.getD 3 0 - 128), l.drop 4)
theorem unq_x (t : List Int) : unq (92 :: 120 :: t) = (if hx 2 t < 128 then hx 2 t else -1 - hx 2 t, t.drop 2) := rfl
theorem unq_u (t : List Int) : unq (92 :: 117 :: t) = (hx 4 t, t.drop 4) := rfl
theorem unq_U (t : List Int) : unq (92 :: 85 :: t) = (hx 8 t, t.drop 8) := rfl
theorem hx4 (r : Nat) (h : r < 65536) (x : List Int) : hx 4 (hexDigits r 4 ++ x) = r := by
  simp only [hexDigits, List.cons_append, List.nil_append, hx, List.headD_cons, List.tail_cons]
  rw [unhex_hex (Nat.mod_lt _ (by decide)), unhex_hex (Nat.mod_lt _ (by decide)), unhex_hex (Nat.mod_lt _ (by decide)), unhex_hex (Nat.mod_lt _ (by decide))]
  omega
theorem hx8 (r : Nat) (h : r < 4294967296) (x : List Int) : hx 8 (hexDigits r 8 ++ x) = r := by
  simp only [hexDigits, List.cons_append, List.nil_append, hx, List.headD_cons, List.tail_cons]
  rw [unhex_hex (Nat.mod_lt _ (by decide)), unhex_hex (Nat.mod_lt _ (by decide)), unhex_hex (Nat.mod_lt _ (by decide)), unhex_hex (Nat.mod_lt _ (by decide)),
    unhex_hex (Nat.mod_lt _ (by decide)), unhex_hex (Nat.mod_lt _ (by decide)), unhex_hex (Nat.mod_lt _ (by decide)), unhex_hex (Nat.mod_lt _ (by decide))]
  omega
theorem unq_rune (r : Int) (hv : Go.Lib.validRune r = true) (h1 : r ≠ 92) (x : List Int) : unq (encodeRuneZ r ++ x) = (r, x) ∧ ((encodeRuneZ r ++ x).headD 0 = 34 → r = 34) := by
  have hv' : (0 ≤ r ∧ r < 0xD800) ∨ (0xDFFF < r ∧ r ≤ 0x10FFFF) := by simpa [Go.Lib.validRune] using hv
  unfold encodeRuneZ
  split
  · refine ⟨?_, fun g => by simpa using g⟩
    unfold unq
    simp only [List.cons_append, List.nil_append, List.headD_cons, List.drop_succ_cons, List.drop_zero]
    rw [if_neg h1, if_pos (by omega)]
  split
  · refine ⟨?_, fun g => by simp at g; omega⟩
    unfold unq
    simp only [List.cons_append, List.nil_append, List.headD_cons, List.drop_succ_cons, List.drop_zero, List.getD_cons_succ, List.getD_cons_zero]
    rw [if_neg (by omega), if_neg (by omega), if_pos (by omega)]
    refine Prod.ext ?_ rfl
    show _ = r; simp only; omega
  split
  · refine ⟨?_, fun g => by simp at g; omega⟩
    unfold unq
    simp only [List.cons_append, List.nil_append, List.headD_cons, List.drop_succ_cons, List.drop_zero, List.getD_cons_succ, List.getD_cons_zero]
    rw [if_neg (by omega), if_neg (by omega), if_neg (by omega), if_pos (by omega)]
    refine Prod.ext ?_ rfl
    show _ = r; simp only; omega
  split
  · refine ⟨?_, fun g => by simp at g; omega⟩
    unfold unq
    simp only [List.cons_append, List.nil_append, List.headD_cons, List.drop_succ_cons, List.drop_zero, List.getD_cons_succ, List.getD_cons_zero]
    rw [if_neg (by omega), if_neg (by omega), if_neg (by omega), if_neg (by omega)]
    refine Prod.ext ?_ rfl
    show _ = r; simp only; omega
  · omega
theorem unq_esc (T : PrintTabs) (r : Int) (hv : Go.Lib.validRune r = true) (x : List Int) : unq (escRune T r ++ x) = (r, x) ∧ (escRune T r ++ x).headD 0 ≠ 34 := by
  have hv' : (0 ≤ r ∧ r < 0xD800) ∨ (0xDFFF < r ∧ r ≤ 0x10FFFF) := by simpa [Go.Lib.validRune] using hv
  unfold escRune
  by_cases c0 : r = 34 ∨ r = 92
  · rw [if_pos c0]; exact ⟨by simp [unq, c0], by simp⟩
  rw [if_neg c0]
  by_cases c1 : isPrintR T r = true
  · rw [if_pos c1]
    have := unq_rune r hv (fun e => c0 (.inr e)) x
    exact ⟨this.1, fun g => c0 (.inl (this.2 g))⟩
  rw [if_neg c1]
  by_cases c2 : r = 7
  · rw [if_pos c2]; exact ⟨by simp [unq, c2], by simp⟩
  rw [if_neg c2]
  by_cases c3 : r = 8
  · rw [if_pos c3]; exact ⟨by simp [unq, c3], by simp⟩
  rw [if_neg c3]
  by_cases c4 : r = 12
  · rw [if_pos c4]; exact ⟨by simp [unq, c4], by simp⟩
  rw [if_neg c4]
  by_cases c5 : r = 10
  · rw [if_pos c5]; exact ⟨by simp [unq, c5], by simp⟩
  rw [if_neg c5]
  by_cases c6 : r = 13
  · rw [if_pos c6]; exact ⟨by simp [unq, c6], by simp⟩
  rw [if_neg c6]
  by_cases c7 : r = 9
  · rw [if_pos c7]; exact ⟨by simp [unq, c7], by simp⟩
  rw [if_neg c7]
  by_cases c8 : r = 11
  · rw [if_pos c8]; exact ⟨by simp [unq, c8], by simp⟩
  rw [if_neg c8]
  by_cases c9 : r < 32 ∨ r = 127
  · rw [if_pos c9]
    refine ⟨?_, by simp⟩
    have e : hx 2 (Go.Lib.hexDigit (r.toNat / 16) :: Go.Lib.hexDigit (r.toNat % 16) :: x) = r := by
      simp only [hx, List.headD_cons, List.tail_cons]
      rw [unhex_hex (by omega), unhex_hex (Nat.mod_lt _ (by decide))]
      omega
    show unq (92 :: 120 :: Go.Lib.hexDigit (r.toNat / 16) :: Go.Lib.hexDigit (r.toNat % 16) :: x) = _
    rw [unq_x, e, if_pos (by omega)]
    rfl
  rw [if_neg c9]
  rw [if_neg (by rw [hv]; decide)]
  by_cases c11 : r < 65536
  · rw [if_pos c11]
    refine ⟨?_, by simp⟩
    have e := hx4 r.toNat (by omega) x
    show unq (92 :: 117 :: (hexDigits r.toNat 4 ++ x)) = _
    rw [unq_u, e]
    refine Prod.ext ?_ rfl
    show ((r.toNat : Nat) : Int) = r
    omega
  rw [if_neg c11]
  refine ⟨?_, by simp⟩
  have e := hx8 r.toNat (by omega) x
  show unq (92 :: 85 :: (hexDigits r.toNat 8 ++ x)) = _
  rw [unq_U, e]
  refine Prod.ext ?_ rfl
  show ((r.toNat : Nat) : Int) = r
  omega
def code (s : ByteArray) : Int := if (Utf8.decode s 0).2 = 1 ∧ (Utf8.decode s 0).1 = 65533 then -1 - ((s.get! 0).toNat : Int) else ((Utf8.decode s 0).1 : Int)
def bytesOf (c : Int) : List UInt8 := if c < 0 then [(-1 - c).toNat.toUInt8] else encodeRune c
theorem bad_high (s : ByteArray) (h : (Utf8.decode s 0).2 = 1 ∧ (Utf8.decode s 0).1 = 65533) : 128 ≤ (s.get! 0).toNat := by
  rw [decode_at] at h
  unfold decodeN at h
  rcases Nat.lt_or_ge (s.get! 0).toNat 128 with q | q
  · rw [if_pos q] at h
    simp only at h; omega
  · exact q
theorem unq_step (T : PrintTabs) (s : ByteArray) (x : List Int) : unq (quoteStep T s ++ x) = (code s, x) ∧ (quoteStep T s ++ x).headD 0 ≠ 34 := by
  unfold quoteStep code
  by_cases q : (Utf8.decode s 0).2 = 1 ∧ (Utf8.decode s 0).1 = 65533
  · rw [if_pos q, if_pos q]
    refine ⟨?_, by simp⟩
    have hb := bad_high s q
    have hlt := UInt8.toNat_lt (s.get! 0)
    have e : hx 2 (Go.Lib.hexDigit ((s.get! 0).toNat / 16) :: Go.Lib.hexDigit ((s.get! 0).toNat % 16) :: x) = ((s.get! 0).toNat : Int) := by
      simp only [hx, List.headD_cons, List.tail_cons]
      rw [unhex_hex (by omega), unhex_hex (Nat.mod_lt _ (by decide))]
      omega
    show unq (92 :: 120 :: Go.Lib.hexDigit ((s.get! 0).toNat / 16) :: Go.Lib.hexDigit ((s.get! 0).toNat % 16) :: x) = _
    rw [unq_x, e, if_neg (show ¬ (((s.get! 0).toNat : Nat) : Int) < 128 by omega)]
    rfl
  · rw [if_neg q, if_neg q]
    exact unq_esc T _ (rune_valid s) x
theorem bytes_code (s : ByteArray) (h0 : 0 < s.size) : s.data.toList = bytesOf (code s) ++ (s.extract (Utf8.decode s 0).2 s.size).data.toList := by
  have hex : (s.extract (Utf8.decode s 0).2 s.size).data.toList = s.data.toList.drop (Utf8.decode s 0).2 := by
    rw [ByteArray.data_extract, Array.toList_extract]
    simp only [List.extract_eq_take_drop]
    exact List.take_of_length_le (by rw [List.length_drop, Array.length_toList]; exact Nat.le_refl _)
  rw [hex]
  have hne : s.data.toList ≠ [] := fun e => by
    have h1 : s.data.toList.length = s.data.size := Array.length_toList
    have h2 : 0 < s.data.size := h0
    rw [e, List.length_nil] at h1; omega
  have hs : Utf8.decode s 0 = decodeL s.data.toList := rfl
  unfold code bytesOf
  by_cases q : (Utf8.decode s 0).2 = 1 ∧ (Utf8.decode s 0).1 = 65533
  · rw [if_pos q, if_pos (by omega), q.1]
    cases hl : s.data.toList with
    | nil => exact absurd hl hne
    | cons b t =>
      have hb : s.get! 0 = b := by
        have h0' : 0 < s.data.size := h0
        have : s.get! 0 = s.data[0]'h0' := getElem!_pos s.data 0 h0'
        rw [this, ← Array.getElem_toList]
        simp only [hl, List.getElem_cons_zero]
      rw [hb]
      simp only [List.drop_succ_cons, List.drop_zero, List.cons_append, List.nil_append]
      congr 1
      rw [show (-1 - (-1 - (b.toNat : Int))).toNat = b.toNat by omega]
      exact (UInt8.ofNat_toNat).symm
  · rw [if_neg q, if_neg (by omega), hs, encode_decode _ hne (fun g => q ⟨by rw [hs]; exact g.2, by rw [hs]; exact g.1⟩), List.take_append_drop]
theorem quoteFrom_inj (T : PrintTabs) : ∀ (f : Nat) {s : ByteArray}, s.size ≤ f → ∀ {f' : Nat} {s' : ByteArray} {x y : List Int}, s'.size ≤ f' → quoteFrom T f s ++ 34 :: x = quoteFrom T f' s' ++ 34 :: y → s = s' ∧ x = y := by
  intro f
  induction f using Nat.strongRecOn with
  | ind f ih =>
    intro s hf f' s' x y hf' h
    by_cases h0 : 0 < s.size
    · rw [quoteFrom_step T f s h0 hf, List.append_assoc] at h
      obtain ⟨u1, u2⟩ := unq_step T s (quoteFrom T (f - 1) (s.extract (Utf8.decode s 0).2 s.size) ++ 34 :: x)
      by_cases h1 : 0 < s'.size
      · rw [quoteFrom_step T f' s' h1 hf', List.append_assoc] at h
        obtain ⟨v1, v2⟩ := unq_step T s' (quoteFrom T (f' - 1) (s'.extract (Utf8.decode s' 0).2 s'.size) ++ 34 :: y)
        rw [h, v1] at u1
        have e1 : code s' = code s := congrArg Prod.fst u1
        have e2 := congrArg Prod.snd u1
        have w1 := width_pos s 0
        have w2 := width_pos s' 0
        obtain ⟨k1, k2⟩ := ih (f - 1) (by omega) (by rw [size_rest]; omega) (by rw [size_rest]; omega) e2.symm
        refine ⟨?_, k2⟩
        have b1 := bytes_code s h0
        have b2 := bytes_code s' h1
        rw [e1, ← k1, ← b1] at b2
        exact ByteArray.ext (Array.toList_inj.1 b2.symm)
      · rw [quoteFrom_end T f' s' h1] at h
        rw [h] at u2
        exact absurd rfl u2
    · rw [quoteFrom_end T f s h0] at h
      by_cases h1 : 0 < s'.size
      · rw [quoteFrom_step T f' s' h1 hf', List.append_assoc] at h
        obtain ⟨v1, v2⟩ := unq_step T s' (quoteFrom T (f' - 1) (s'.extract (Utf8.decode s' 0).2 s'.size) ++ 34 :: y)
        rw [← h] at v2
        exact absurd rfl v2
      · rw [quoteFrom_end T f' s' h1] at h
        refine ⟨ByteArray.ext (Array.toList_inj.1 ?_), by simpa using h⟩
        have z1 : s.data.toList = [] := List.eq_nil_of_length_eq_zero (by have q : ¬ 0 < s.data.size := h0; rw [Array.length_toList]; omega)
        have z2 : s'.data.toList = [] := List.eq_nil_of_length_eq_zero (by have q : ¬ 0 < s'.data.size := h1; rw [Array.length_toList]; omega)
        rw [z1, z2]
theorem quote_inj (T : PrintTabs) {s s' : ByteArray} {x y : List Int} (h : quoteZ T s ++ x = quoteZ T s' ++ y) : s = s' ∧ x = y := by
  unfold quoteZ at h
  rw [List.cons_append, List.cons_append] at h
  have h := List.tail_eq_of_cons_eq h
  rw [List.append_assoc, List.append_assoc] at h
  exact quoteFrom_inj T s.size (Nat.le_refl _) (Nat.le_refl _) h
end Ml
end Go.Proofs.YtfjcciaabkjkgaaGreatDoor
namespace Go.Proofs.YtfjcciaabkjkgaaGreatDoor
namespace Ml
open Go.Lib
def d36 : Nat → Nat → List Int
  | 0, _ => []
  | f + 1, n => (if n < 36 then [] else d36 f (n / 36)) ++ [Go.Lib.hexDigit (n % 36)]
def val36 (l : List Int) : Int := l.foldl (fun a c => a * 36 + unhex c) 0
theorem unhex36 {k : Nat} (h : k < 36) : unhex (Go.Lib.hexDigit k) = k := by
  unfold unhex Go.Lib.hexDigit
  split <;> split <;> omega
theorem val_d36 : ∀ (f n : Nat), n < 36 ^ f → 0 < f → val36 (d36 f n) = n
  | 0, _, _, h => by omega
  | f + 1, n, h, _ => by
    unfold d36 val36
    rw [List.foldl_append]
    simp only [List.foldl_cons, List.foldl_nil]
    rw [unhex36 (Nat.mod_lt _ (by decide))]
    split
    · simp only [List.foldl_nil]; omega
    · have hf : 0 < f := by
        rcases Nat.eq_zero_or_pos f with e | e
        · subst e; simp only [Nat.zero_add, Nat.pow_one] at h; omega
        · exact e
      have := val_d36 f (n / 36) (by rw [Nat.pow_succ] at h; exact Nat.div_lt_of_lt_mul (by omega)) hf
      unfold val36 at this
      rw [this]; omega
theorem digit_range {k : Nat} (h : k < 36) : 48 ≤ Go.Lib.hexDigit k ∧ Go.Lib.hexDigit k < 123 := by
  unfold Go.Lib.hexDigit
  split <;> omega
theorem d36_range : ∀ (f n : Nat), ∀ x ∈ d36 f n, 48 ≤ x ∧ x < 123
  | 0, _, x, h => by cases h
  | f + 1, n, x, h => by
    unfold d36 at h
    rcases List.mem_append.1 h with h | h
    · split at h
      · cases h
      · exact d36_range f _ x h
    · rw [List.mem_singleton.1 h]
      exact digit_range (Nat.mod_lt _ (by decide))
def fb (b : Bool) : List Int := if b then [116, 114, 117, 101] else [102, 97, 108, 115, 101]
def mtsL (T : PrintTabs) : List Mt → List Int
  | [] => []
  | x :: s => 32 :: (fb x.has ++ (quoteZ T x.val ++ mtsL T s))
theorem mtsL_inj (T : PrintTabs) : ∀ {s s' : List Mt}, mtsL T s = mtsL T s' → s = s'
  | [], [], _ => rfl
  | [], x :: s', h => by simp [mtsL] at h
  | x :: s, [], h => by simp [mtsL] at h
  | ⟨a, u⟩ :: s, ⟨b, v⟩ :: s', h => by
    unfold mtsL at h
    have h := List.tail_eq_of_cons_eq h
    have hab : a = b := by
      cases a <;> cases b <;> first | rfl | (exfalso; simp [fb] at h)
    subst hab
    have h := List.append_cancel_left h
    obtain ⟨h1, h2⟩ := quote_inj T h
    simp only at h1
    rw [h1, mtsL_inj T h2]
def nameL (T : PrintTabs) (left : Nat) (s : List Mt) : List Int := d36 7 left ++ mtsL T s
theorem split32 : ∀ {a b x y : List Int}, (∀ c ∈ a, c ≠ 32) → (∀ c ∈ b, c ≠ 32) → (x = [] ∨ ∃ t, x = 32 :: t) → (y = [] ∨ ∃ t, y = 32 :: t) → a ++ x = b ++ y → a = b ∧ x = y
  | [], [], x, y, _, _, _, _, h => ⟨rfl, h⟩
  | [], d :: b, x, y, _, hb, hx, _, h => by
    rcases hx with rfl | ⟨t, rfl⟩
    · cases h
    · exact absurd (List.cons.inj h).1.symm (hb d (by simp))
  | c :: a, [], x, y, ha, _, _, hy, h => by
    rcases hy with rfl | ⟨t, rfl⟩
    · cases h
    · exact absurd (List.cons.inj h).1 (ha c (by simp))
  | c :: a, d :: b, x, y, ha, hb, hx, hy, h => by
    obtain ⟨h1, h2⟩ := List.cons.inj h
    obtain ⟨k1, k2⟩ := split32 (fun c q => ha c (by simp [q])) (fun c q => hb c (by simp [q])) hx hy h2
    exact ⟨by rw [h1, k1], k2⟩
theorem nameL_inj (T : PrintTabs) {l l' : Nat} {s s' : List Mt} (hl : l < 4294967296) (hl' : l' < 4294967296) (h : nameL T l s = nameL T l' s') : l = l' ∧ s = s' := by
  have hm : ∀ s : List Mt, mtsL T s = [] ∨ ∃ t, mtsL T s = 32 :: t := fun s => by
    cases s with
    | nil => exact .inl rfl
    | cons x s => exact .inr ⟨_, rfl⟩
  obtain ⟨k1, k2⟩ := split32 (fun c q => by have := d36_range _ _ c q; omega) (fun c q => by have := d36_range _ _ c q; omega) (hm s) (hm s') h
  refine ⟨?_, mtsL_inj T k2⟩
  have e1 := val_d36 7 l (by omega) (by decide)
  have e2 := val_d36 7 l' (by omega) (by decide)
  rw [k1, e2] at e1
  omega
def byteL (l : List Int) : Prop := ∀ x ∈ l, 0 ≤ x ∧ x < 256
theorem byteL_app {a b : List Int} (h : byteL a) (g : byteL b) : byteL (a ++ b) := fun x q => (List.mem_append.1 q).elim (h x) (g x)
theorem byteL_cons {a : Int} {b : List Int} (h : 0 ≤ a ∧ a < 256) (g : byteL b) : byteL (a :: b) := fun x q => by
  rcases List.mem_cons.1 q with rfl | q
  · exact h
  · exact g x q
theorem byteL_nil : byteL [] := fun x q => by cases q
theorem hex_byte {k : Nat} (h : k < 36) : 0 ≤ Go.Lib.hexDigit k ∧ Go.Lib.hexDigit k < 256 := by have := digit_range h; omega
theorem hexDigits_byte (r : Nat) : ∀ n, byteL (hexDigits r n)
  | 0 => byteL_nil
  | n + 1 => byteL_cons (hex_byte (by have := Nat.mod_lt (r / 16 ^ n) (show 16 > 0 by decide); omega)) (hexDigits_byte r n)
theorem encode_byte (r : Int) (hv : Go.Lib.validRune r = true) : byteL (encodeRuneZ r) := by
  have hv' : (0 ≤ r ∧ r < 0xD800) ∨ (0xDFFF < r ∧ r ≤ 0x10FFFF) := by simpa [Go.Lib.validRune] using hv
  unfold encodeRuneZ
  intro x hx
  split at hx
  · simp only [List.mem_cons, List.not_mem_nil, or_false] at hx; omega
  split at hx
  · simp only [List.mem_cons, List.not_mem_nil, or_false] at hx; omega
  split at hx
  · simp only [List.mem_cons, List.not_mem_nil, or_false] at hx; omega
  split at hx
  · simp only [List.mem_cons, List.not_mem_nil, or_false] at hx; omega
  · simp only [List.mem_cons, List.not_mem_nil, or_false] at hx; omega
theorem esc_byte (T : PrintTabs) (r : Int) (hv : Go.Lib.validRune r = true) : byteL (escRune T r) := by
  unfold escRune
  by_cases c0 : r = 34 ∨ r = 92
  · rw [if_pos c0]; exact byteL_cons (by decide) (byteL_cons (by omega) byteL_nil)
  rw [if_neg c0]
  by_cases c1 : isPrintR T r = true
  · rw [if_pos c1]; exact encode_byte r hv
  rw [if_neg c1]
  by_cases d0 : r = 7
  · rw [if_pos d0]; exact byteL_cons (by decide) (byteL_cons (by decide) byteL_nil)
  rw [if_neg d0]
  by_cases d1 : r = 8
  · rw [if_pos d1]; exact byteL_cons (by decide) (byteL_cons (by decide) byteL_nil)
  rw [if_neg d1]
  by_cases d2 : r = 12
  · rw [if_pos d2]; exact byteL_cons (by decide) (byteL_cons (by decide) byteL_nil)
  rw [if_neg d2]
  by_cases d3 : r = 10
  · rw [if_pos d3]; exact byteL_cons (by decide) (byteL_cons (by decide) byteL_nil)
  rw [if_neg d3]
  by_cases d4 : r = 13
  · rw [if_pos d4]; exact byteL_cons (by decide) (byteL_cons (by decide) byteL_nil)
  rw [if_neg d4]
  by_cases d5 : r = 9
  · rw [if_pos d5]; exact byteL_cons (by decide) (byteL_cons (by decide) byteL_nil)
  rw [if_neg d5]
  by_cases d6 : r = 11
  · rw [if_pos d6]; exact byteL_cons (by decide) (byteL_cons (by decide) byteL_nil)
  rw [if_neg d6]
  by_cases c9 : r < 32 ∨ r = 127
  · rw [if_pos c9]; exact byteL_cons (by decide) (byteL_cons (by decide) (byteL_cons (hex_byte (by omega)) (byteL_cons (hex_byte (by omega)) byteL_nil)))
  rw [if_neg c9]
  by_cases c10 : Go.Lib.validRune r = false
  · rw [if_pos c10]; exact byteL_cons (by decide) (byteL_cons (by decide) (hexDigits_byte _ _))
  rw [if_neg c10]
  by_cases c11 : r < 65536
  · rw [if_pos c11]; exact byteL_cons (by decide) (byteL_cons (by decide) (hexDigits_byte _ _))
  rw [if_neg c11]
  exact byteL_cons (by decide) (byteL_cons (by decide) (hexDigits_byte _ _))
theorem quoteFrom_byte (T : PrintTabs) : ∀ (f : Nat) (s : ByteArray), byteL (quoteFrom T f s)
  | 0, _ => byteL_nil
  | f + 1, s => by
    unfold quoteFrom
    split
    · refine byteL_app ?_ (quoteFrom_byte T f _)
      unfold quoteStep
      have hlt := UInt8.toNat_lt (s.get! 0)
      split
      · exact byteL_cons (by decide) (byteL_cons (by decide) (byteL_cons (hex_byte (by omega)) (byteL_cons (hex_byte (by omega)) byteL_nil)))
      · exact esc_byte T _ (rune_valid s)
    · exact byteL_nil
theorem quoteZ_byte (T : PrintTabs) (s : ByteArray) : byteL (quoteZ T s) := byteL_cons (by decide) (byteL_app (quoteFrom_byte T _ _) (byteL_cons (by decide) byteL_nil))
theorem fb_byte (b : Bool) : byteL (fb b) := by cases b <;> (unfold byteL fb; decide)
theorem mtsL_byte (T : PrintTabs) : ∀ s : List Mt, byteL (mtsL T s)
  | [] => byteL_nil
  | x :: s => byteL_cons (by decide) (byteL_app (fb_byte _) (byteL_app (quoteZ_byte T _) (mtsL_byte T s)))
theorem nameL_byte (T : PrintTabs) (left : Nat) (s : List Mt) : byteL (nameL T left s) := byteL_app (fun x q => by have := d36_range _ _ x q; omega) (mtsL_byte T s)
end Ml
end Go.Proofs.YtfjcciaabkjkgaaGreatDoor
namespace Go.Proofs.YtfjcciaabkjkgaaGreatDoor
open Go
section
variable {P : Program} {ρ : Regs} {h : Heap} {d : Option Nat} {ty : TypeId} {p : String} {af : Array Edge} {g : Option (Nat × Bool)}
theorem hv_sliceA {t e : TypeId} {x : Operand} {lo hi : Option Operand} {size n b o : Nat} {q : Option Addr} {l r : Int} (ha : P.underlying t = some (.array n e)) (hz : szB P e = some size) (hx : ev ρ x = ptr b o)
    (hl : sliceLo ρ lo l) (hr : sliceHi ρ hi n r) (h0 : 0 ≤ l) (h1 : l ≤ r) (h2 : r ≤ n) (hq : q = slA (some ⟨b, o, none⟩) l.toNat size n) :
    HVal P ρ ⟨d, .slice t x lo hi none, ty, p, af, g⟩ h (.slice q (r.toNat - l.toNat) (n - l.toNat)) :=
  hv_of fun w _ => by
    have hb := run_bounds (P := P) (ρ := ρ) false n n lo hi l r w hl hr h0 h1 h2
    have hp : (Instr.sureAddr (ptr b o)).run P w = .ok ⟨b, o, none⟩ w := by simp [Instr.sureAddr, asAddr, ptr, go_sem]
    subst hq
    have e1 : (Instr.sliceAt t (ptr b o) (lo.map (ev ρ)) (hi.map (ev ρ)) none).run P w = .ok (.slice (slA (some ⟨b, o, none⟩) l.toNat size n) (r.toNat - l.toNat) (n - l.toNat)) w := by
      unfold Instr.sliceAt
      rw [Sem.run_bind, run_underlying ha, Result.andThen_ok]
      simp only [Sem.run_bind, hp, Result.andThen_ok, hb, run_sizeOf hz, Sem.run_pure, slA]
      split <;> rfl
    simp only [execOp, hx, Option.map_none, Sem.run_bind, e1, Result.andThen_ok, Sem.run_pure]
end
end Go.Proofs.YtfjcciaabkjkgaaGreatDoor
namespace Go.Proofs.YtfjcciaabkjkgaaGreatDoor
open Go
open Go.Proofs.YtfjcciaabkjkgaaGreatDoor renaming hl_val → lv, hl_step → lp, hl_nil → ln, hl_yes → ly, hl_no → lo, hx_seq → xs, hx_region → xr, hx_cond → xc, hx_block → xb, hx_loopT → xl, hx_cut → xk, hx_has → xh, hx_skip → xi, hx_ret → xt, hx_exit → xe, seqQ_n → qn, seqQ_ret → qr, seqQ_exit → qe, blockQ_n → bn, blockQ_here → bh, hv_move → vm, hv_assign → va, hv_arith → vr, hv_extract → vx, has_cons → hc, has_nil → hn, hs_call → sc
set_option maxRecDepth 100000
set_option maxHeartbeats 4000000
theorem TyTD.cb120 : CallB Tryz.prog 120 := fun _ _ => Tryz.call120 _ _
theorem TyTD.cb121 : CallB Tryz.prog 121 := fun _ _ => Tryz.call121 _ _
theorem TyTD.cb136 : CallB Tryz.prog 136 := fun _ _ => Tryz.call136 _ _
theorem TyTD.cb137 : CallB Tryz.prog 137 := fun _ _ => Tryz.call137 _ _
theorem TyTD.cb138 : CallB Tryz.prog 138 := fun _ _ => Tryz.call138 _ _
theorem TyTD.cb139 : CallB Tryz.prog 139 := fun _ _ => Tryz.call139 _ _
theorem TyTD.cb147 : CallB Tryz.prog 147 := fun _ _ => Tryz.call147 _ _
theorem TyTD.cb148 : CallB Tryz.prog 148 := fun _ _ => Tryz.call148 _ _
theorem TyTD.ea179 : elA Tryz.prog 179 = some (65, 1) := by kernel_rfl
theorem TyTD.sz5 : szB Tryz.prog 5 = some 1 := by kernel_rfl
theorem TyTD.u125 : Tryz.prog.underlying 125 = some (.int .u64) := by kernel_rfl
theorem TyTD.u167 : Tryz.prog.underlying 167 = some (.array 24 5) := by kernel_rfl
theorem TyTD.u169 : Tryz.prog.underlying 169 = some (.slice 5) := by kernel_rfl
theorem TyTD.u179 : Tryz.prog.underlying 179 = some (.array 65 5) := by kernel_rfl
theorem TyTD.u3 : Tryz.prog.underlying 3 = some (.int .i64) := by kernel_rfl
theorem TyTD.u5 : Tryz.prog.underlying 5 = some (.int .u8) := by kernel_rfl
theorem TyTD.u88 : Tryz.prog.underlying 88 = some (.int .u64) := by kernel_rfl
theorem TyTD.u9 : Tryz.prog.underlying 9 = some (.string) := by kernel_rfl
theorem TyTD.z167 : zeroB Tryz.prog 167 (.agg #[(.int .u8 0), (.int .u8 0), (.int .u8 0), (.int .u8 0), (.int .u8 0), (.int .u8 0), (.int .u8 0), (.int .u8 0), (.int .u8 0), (.int .u8 0), (.int .u8 0), (.int .u8 0), (.int .u8 0), (.int .u8 0), (.int .u8 0), (.int .u8 0), (.int .u8 0), (.int .u8 0), (.int .u8 0), (.int .u8 0), (.int .u8 0), (.int .u8 0), (.int .u8 0), (.int .u8 0)]) := by unfold zeroB; kernel_rfl
theorem TyTD.z179 : zeroB Tryz.prog 179 (.agg #[(.int .u8 0), (.int .u8 0), (.int .u8 0), (.int .u8 0), (.int .u8 0), (.int .u8 0), (.int .u8 0), (.int .u8 0), (.int .u8 0), (.int .u8 0), (.int .u8 0), (.int .u8 0), (.int .u8 0), (.int .u8 0), (.int .u8 0), (.int .u8 0), (.int .u8 0), (.int .u8 0), (.int .u8 0), (.int .u8 0), (.int .u8 0), (.int .u8 0), (.int .u8 0), (.int .u8 0), (.int .u8 0), (.int .u8 0), (.int .u8 0), (.int .u8 0), (.int .u8 0), (.int .u8 0), (.int .u8 0), (.int .u8 0), (.int .u8 0), (.int .u8 0), (.int .u8 0), (.int .u8 0), (.int .u8 0), (.int .u8 0), (.int .u8 0), (.int .u8 0), (.int .u8 0), (.int .u8 0), (.int .u8 0), (.int .u8 0), (.int .u8 0), (.int .u8 0), (.int .u8 0), (.int .u8 0), (.int .u8 0), (.int .u8 0), (.int .u8 0), (.int .u8 0), (.int .u8 0), (.int .u8 0), (.int .u8 0), (.int .u8 0), (.int .u8 0), (.int .u8 0), (.int .u8 0), (.int .u8 0), (.int .u8 0), (.int .u8 0), (.int .u8 0), (.int .u8 0), (.int .u8 0)]) := by unfold zeroB; kernel_rfl
theorem ext_pushed_f121_sh {h h1 : Heap} {o : Obj} (e : h1 = Array.push h o) : Ext h h1 := by rw [e]; exact Ext.push _ _
theorem f139_sh (b4 : Option Addr) (a7 : Nat) (a6 : Nat) (u : Int) (a0 : Int) (a8 : Bool) (a4 : Bool) (h : Heap) (R : Value → Heap → Prop)
  (H : ((((decide (a0 < 2)) || ((a0 == 10) || (decide (a0 > 36)))) = true → False) ∧ (((decide (a0 < 2)) || ((a0 == 10) || (decide (a0 > 36)))) = false → (∀ a h1, a = Array.size h → h1 = Array.push h (.cells #[(.int .u8 0), (.int .u8 0), (.int .u8 0), (.int .u8 0), (.int .u8 0), (.int .u8 0), (.int .u8 0), (.int .u8 0), (.int .u8 0), (.int .u8 0), (.int .u8 0), (.int .u8 0), (.int .u8 0), (.int .u8 0), (.int .u8 0), (.int .u8 0), (.int .u8 0), (.int .u8 0), (.int .u8 0), (.int .u8 0), (.int .u8 0), (.int .u8 0), (.int .u8 0), (.int .u8 0), (.int .u8 0), (.int .u8 0), (.int .u8 0), (.int .u8 0), (.int .u8 0), (.int .u8 0), (.int .u8 0), (.int .u8 0), (.int .u8 0), (.int .u8 0), (.int .u8 0), (.int .u8 0), (.int .u8 0), (.int .u8 0), (.int .u8 0), (.int .u8 0), (.int .u8 0), (.int .u8 0), (.int .u8 0), (.int .u8 0), (.int .u8 0), (.int .u8 0), (.int .u8 0), (.int .u8 0), (.int .u8 0), (.int .u8 0), (.int .u8 0), (.int .u8 0), (.int .u8 0), (.int .u8 0), (.int .u8 0), (.int .u8 0), (.int .u8 0), (.int .u8 0), (.int .u8 0), (.int .u8 0), (.int .u8 0), (.int .u8 0), (.int .u8 0), (.int .u8 0), (.int .u8 0)] 179) → (∀ b3 : Int, b3 = (bif a8 then IntKind.u64.wrap (0 - u) else u) → (∃ c0 : Int → Heap → Prop, HC Tryz.prog 147 #[(.int .i64 a0)] h1 (fun vv h3 => ∃ r : Bool, vv = (.bool r) ∧ ((r = true → HC Tryz.prog 148 #[(.int .u64 (IntKind.u64.wrap a0))] h3 (fun vv h4 => ∃ b1 : Int, vv = (.int .i64 b1) ∧ (∃ (c1 : Int → Int → Heap → Prop) (b6 : Int → Int → Heap → Nat), c1 b3 65 h4 ∧ (∀ (a2 : Int) (a1 : Int) (h5 : Heap), c1 a2 a1 h5 → (((decide (a2 ≥ (IntKind.u64.wrap a0))) = true → ((0 : Int) ≤ iband .u64 a2 (IntKind.u64.wrap ((IntKind.u64.wrap a0) - 1)) ∧ ∃ a5 : UInt8, (ByteArray.mk #[48, 49, 50, 51, 52, 53, 54, 55, 56, 57, 97, 98, 99, 100, 101, 102, 103, 104, 105, 106, 107, 108, 109, 110, 111, 112, 113, 114, 115, 116, 117, 118, 119, 120, 121, 122])[Int.toNat (iband .u64 a2 (IntKind.u64.wrap ((IntKind.u64.wrap a0) - 1)))]? = some a5 ∧ ((0 : Int) ≤ IntKind.i64.wrap (a1 - 1) ∧ (IntKind.i64.wrap (a1 - 1) : Int) < 65 ∧ (HW h5 a (0 + (Int.toNat (IntKind.i64.wrap (a1 - 1))) * 1) ∧ ∀ h6, h6 = hset h5 a (0 + (Int.toNat (IntKind.i64.wrap (a1 - 1))) * 1) (.int .u8 (UInt8.toNat a5 : Int)) → ((0 : Int) ≤ IntKind.u64.wrap b1 ∧ (c1 (Int.fdiv a2 (2 ^ min (Int.toNat (IntKind.u64.wrap b1)) 64)) (IntKind.i64.wrap (a1 - 1)) h6 ∧ b6 (Int.fdiv a2 (2 ^ min (Int.toNat (IntKind.u64.wrap b1)) 64)) (IntKind.i64.wrap (a1 - 1)) h6 < b6 a2 a1 h5)))))) ∧ ((decide (a2 ≥ (IntKind.u64.wrap a0))) = false → ((0 : Int) ≤ a2 ∧ ∃ a5 : UInt8, (ByteArray.mk #[48, 49, 50, 51, 52, 53, 54, 55, 56, 57, 97, 98, 99, 100, 101, 102, 103, 104, 105, 106, 107, 108, 109, 110, 111, 112, 113, 114, 115, 116, 117, 118, 119, 120, 121, 122])[Int.toNat a2]? = some a5 ∧ ((0 : Int) ≤ IntKind.i64.wrap (a1 - 1) ∧ (IntKind.i64.wrap (a1 - 1) : Int) < 65 ∧ (HW h5 a (0 + (Int.toNat (IntKind.i64.wrap (a1 - 1))) * 1) ∧ ∀ h7, h7 = hset h5 a (0 + (Int.toNat (IntKind.i64.wrap (a1 - 1))) * 1) (.int .u8 (UInt8.toNat a5 : Int)) → (c0 (IntKind.i64.wrap (a1 - 1)) h7)))))))))) ∧ (r = false → (∃ (c3 : Int → Int → Heap → Prop) (b7 : Int → Int → Heap → Nat), c3 b3 65 h3 ∧ (∀ (a2 : Int) (a1 : Int) (h8 : Heap), c3 a2 a1 h8 → (((decide (a2 ≥ (IntKind.u64.wrap a0))) = true → (IntKind.u64.wrap a0 ≠ 0 ∧ ((0 : Int) ≤ IntKind.u64.wrap (a2 - (IntKind.u64.wrap ((IntKind.u64.wrap (Int.tdiv a2 (IntKind.u64.wrap a0))) * (IntKind.u64.wrap a0)))) ∧ ∃ a5 : UInt8, (ByteArray.mk #[48, 49, 50, 51, 52, 53, 54, 55, 56, 57, 97, 98, 99, 100, 101, 102, 103, 104, 105, 106, 107, 108, 109, 110, 111, 112, 113, 114, 115, 116, 117, 118, 119, 120, 121, 122])[Int.toNat (IntKind.u64.wrap (a2 - (IntKind.u64.wrap ((IntKind.u64.wrap (Int.tdiv a2 (IntKind.u64.wrap a0))) * (IntKind.u64.wrap a0)))))]? = some a5 ∧ ((0 : Int) ≤ IntKind.i64.wrap (a1 - 1) ∧ (IntKind.i64.wrap (a1 - 1) : Int) < 65 ∧ (HW h8 a (0 + (Int.toNat (IntKind.i64.wrap (a1 - 1))) * 1) ∧ ∀ h9, h9 = hset h8 a (0 + (Int.toNat (IntKind.i64.wrap (a1 - 1))) * 1) (.int .u8 (UInt8.toNat a5 : Int)) → (c3 (IntKind.u64.wrap (Int.tdiv a2 (IntKind.u64.wrap a0))) (IntKind.i64.wrap (a1 - 1)) h9 ∧ b7 (IntKind.u64.wrap (Int.tdiv a2 (IntKind.u64.wrap a0))) (IntKind.i64.wrap (a1 - 1)) h9 < b7 a2 a1 h8)))))) ∧ ((decide (a2 ≥ (IntKind.u64.wrap a0))) = false → ((0 : Int) ≤ a2 ∧ ∃ a5 : UInt8, (ByteArray.mk #[48, 49, 50, 51, 52, 53, 54, 55, 56, 57, 97, 98, 99, 100, 101, 102, 103, 104, 105, 106, 107, 108, 109, 110, 111, 112, 113, 114, 115, 116, 117, 118, 119, 120, 121, 122])[Int.toNat a2]? = some a5 ∧ ((0 : Int) ≤ IntKind.i64.wrap (a1 - 1) ∧ (IntKind.i64.wrap (a1 - 1) : Int) < 65 ∧ (HW h8 a (0 + (Int.toNat (IntKind.i64.wrap (a1 - 1))) * 1) ∧ ∀ d4, d4 = hset h8 a (0 + (Int.toNat (IntKind.i64.wrap (a1 - 1))) * 1) (.int .u8 (UInt8.toNat a5 : Int)) → (c0 (IntKind.i64.wrap (a1 - 1)) d4))))))))))) ∧ (∀ (i : Int) (h2 : Heap), c0 i h2 → (∃ c2 : Int → Heap → Prop, ((a8 = true → ((0 : Int) ≤ IntKind.i64.wrap (i - 1) ∧ (IntKind.i64.wrap (i - 1) : Int) < 65 ∧ (HW h2 a (0 + (Int.toNat (IntKind.i64.wrap (i - 1))) * 1) ∧ ∀ d3, d3 = hset h2 a (0 + (Int.toNat (IntKind.i64.wrap (i - 1))) * 1) (.int .u8 45) → (c2 (IntKind.i64.wrap (i - 1)) d3)))) ∧ (a8 = false → (c2 i h2))) ∧ (∀ (a3 : Int) (b5 : Heap), c2 a3 b5 → ((a4 = true → (0 ≤ (a3 : Int) ∧ a3 ≤ ((65 : Nat) : Int) ∧ ((65 : Nat) : Int) ≤ (65 : Nat) ∧ ∀ sl : Option Addr, sl = slA (some ⟨a, 0, none⟩) (Int.toNat a3) 1 65 → HAppend Tryz.prog 169 169 (.slice b4 a7 a6) (.slice sl (Int.toNat (65 : Nat) - Int.toNat a3) (65 - Int.toNat a3)) b5 (fun vv d6 => ∃ ap : Option Addr, ∃ b8 b9 : Nat, vv = (.slice ap b8 b9) ∧ R (.tuple #[(.slice ap b8 b9), (.string ByteArray.empty)]) d6))) ∧ (a4 = false → (0 ≤ (a3 : Int) ∧ a3 ≤ ((65 : Nat) : Int) ∧ ((65 : Nat) : Int) ≤ (65 : Nat) ∧ ∀ sl : Option Addr, sl = slA (some ⟨a, 0, none⟩) (Int.toNat a3) 1 65 → (∃ bs : List Int, Byt b5 sl (Int.toNat (65 : Nat) - Int.toNat a3) bs ∧ R (.tuple #[(.slice none 0 0), (.string (ofL bs))]) b5))))))))))))) :
  HC Tryz.prog 139 #[(.slice b4 a7 a6), (.int .u64 u), (.int .i64 a0), (.bool a8), (.bool a4)] h R := by
 refine hc_of (args := [(.slice b4 a7 a6), (.int .u64 u), (.int .i64 a0), (.bool a8), (.bool a4)]) Tryz.func139 rfl Tryz.ntmps139 (Nat.le_of_ble_eq_true rfl) ?_
 refine xs (xr ?_)
 refine lv rfl rfl (va rfl) (lv rfl rfl (va rfl) ?_)
 refine ln (qn (xs ?_))
 refine xk (fun ρ h' => h = h' ∧ Has ρ [(0, (.slice b4 a7 a6)), (1, (.int .u64 u)), (2, (.int .i64 a0)), (3, (.bool a8)), (4, (.bool a4)), (10, (.slice none 0 0)), (11, (.string ByteArray.empty)), (28, (.bool ((decide (a0 < 2)) || ((a0 == 10) || (decide (a0 > 36))))))]) ?_ ?_
 ·refine xr ?_
  refine lv rfl rfl (vm rfl) (lv rfl rfl (vr rfl rfl rfl) (lv rfl rfl (vm rfl) ?_))
  rcases bool_or (decide (a0 < 2)) with a9 | a9
  ·refine lo (wanted_n rfl rfl rfl a9) rfl ?_
   refine lo (wanted_n rfl rfl rfl a9) rfl ?_
   refine lv rfl rfl (v := (.bool true)) (hv_pick_t rfl a9 rfl) (lv rfl rfl (vm rfl) ?_)
   refine lo (wanted_n rfl rfl (c := true) rfl rfl) rfl ?_
   refine lo (wanted_n rfl rfl (c := true) rfl rfl) rfl ?_
   refine lv rfl rfl (v := (.bool true)) (hv_pick (t := true) rfl rfl) ?_
   refine ln (qn ?_)
   exact ⟨rfl, (hc rfl (hc rfl (hc rfl (hc rfl (hc rfl (hc rfl (hc rfl (hc (show ((.bool true) : Value) = (.bool ((decide (a0 < 2)) || ((a0 == 10) || (decide (a0 > 36))))) from (by first | rfl | ((try rw [a9]); all_goals first | rfl | (simp only [Bool.true_or, Bool.or_true, Bool.false_or, Bool.or_false, Bool.true_and, Bool.and_true, Bool.false_and, Bool.and_false, Bool.not_true, Bool.not_false, Bool.cond_true, Bool.cond_false]; done)) | simp [a9])) hn))))))))⟩
  ·refine ly (wanted_y rfl rfl rfl a9) rfl (HStep.of_val (v := (.int .i64 a0)) (vm rfl) ?_)
   refine ly (wanted_y rfl rfl rfl a9) rfl (HStep.of_val (v := (.bool (a0 == 10))) (vr rfl rfl rfl) ?_)
   refine lv rfl rfl (v := (.bool (a0 == 10))) (hv_pick_f rfl a9 rfl) (lv rfl rfl (vm rfl) ?_)
   rcases bool_or (a0 == 10) with b2 | b2
   ·refine lo (wanted_n rfl rfl rfl b2) rfl ?_
    refine lo (wanted_n rfl rfl rfl b2) rfl ?_
    refine lv rfl rfl (v := (.bool true)) (hv_pick_t rfl b2 rfl) ?_
    refine ln (qn ?_)
    exact ⟨rfl, (hc rfl (hc rfl (hc rfl (hc rfl (hc rfl (hc rfl (hc rfl (hc (show ((.bool true) : Value) = (.bool ((decide (a0 < 2)) || ((a0 == 10) || (decide (a0 > 36))))) from (by first | rfl | ((try rw [a9]); (try rw [b2]); all_goals first | rfl | (simp only [Bool.true_or, Bool.or_true, Bool.false_or, Bool.or_false, Bool.true_and, Bool.and_true, Bool.false_and, Bool.and_false, Bool.not_true, Bool.not_false, Bool.cond_true, Bool.cond_false]; done)) | simp [a9, b2])) hn))))))))⟩
   ·refine ly (wanted_y rfl rfl rfl b2) rfl (HStep.of_val (v := (.int .i64 a0)) (vm rfl) ?_)
    refine ly (wanted_y rfl rfl rfl b2) rfl (HStep.of_val (v := (.bool (decide (a0 > 36)))) (vr rfl rfl rfl) ?_)
    refine lv rfl rfl (v := (.bool (decide (a0 > 36)))) (hv_pick_f rfl b2 rfl) ?_
    refine ln (qn ?_)
    exact ⟨rfl, (hc rfl (hc rfl (hc rfl (hc rfl (hc rfl (hc rfl (hc rfl (hc (show ((.bool (decide (a0 > 36))) : Value) = (.bool ((decide (a0 < 2)) || ((a0 == 10) || (decide (a0 > 36))))) from (by first | rfl | ((try rw [a9]); (try rw [b2]); all_goals first | rfl | (simp only [Bool.true_or, Bool.or_true, Bool.false_or, Bool.or_false, Bool.true_and, Bool.and_true, Bool.false_and, Bool.and_false, Bool.not_true, Bool.not_false, Bool.cond_true, Bool.cond_false]; done)) | simp [a9, b2])) hn))))))))⟩
 ·rintro ρ _ ⟨rfl, hH⟩
  refine xh _ hH ?_
  refine xc (b := ((decide (a0 < 2)) || ((a0 == 10) || (decide (a0 > 36))))) rfl (fun d5 => ?_) (fun d5 => ?_)
  ·replace H := H.1 d5
   refine xr ?_
   exact H.elim
  ·replace H := H.2 d5
   refine xi (qn (xs (xr ?_)))
   refine lp rfl rfl (hn_alloc TyTD.z179 ?_)
   intro a h1 j3 d7
   replace H := H a h1 j3 d7
   have j4 := ext_pushed_f121_sh d7
   refine ln (qn (xs (xr ?_)))
   refine lv rfl rfl (va rfl) ?_
   refine ln (qn ?_)
   obtain ⟨b3, hq11⟩ : ∃ q : Int, q = (bif a8 then IntKind.u64.wrap (0 - u) else u) := ⟨_, rfl⟩
   replace H := H b3 hq11
   refine xk (fun ρ h' => h1 = h' ∧ Has ρ [(0, (.slice b4 a7 a6)), (1, (.int .u64 b3)), (2, (.int .i64 a0)), (3, (.bool a8)), (4, (.bool a4)), (10, (.slice none 0 0)), (11, (.string ByteArray.empty)), (12, (ptr a 0)), (13, (.int .i64 65))]) ?_ ?_
   ·refine xs (xr ?_)
    refine lv rfl rfl (vm rfl) ?_
    refine ln (qn ?_)
    refine xc (b := a8) rfl (fun b0 => ?_) (fun b0 => ?_)
    ·refine xr ?_
     refine lv rfl rfl (vm rfl) (lv rfl rfl (v := (.int .u64 (IntKind.u64.wrap (0 - u)))) (hv_neg rfl) (lv rfl rfl (va rfl) ?_))
     refine ln (qn ?_)
     exact ⟨rfl, (hc rfl (hc (show ((.int .u64 (IntKind.u64.wrap (0 - u))) : Value) = (.int .u64 b3) from (by first | rfl | ((try rw [b0]); (try rw [hq11]); (try rw [b0]); all_goals first | rfl | (simp only [Bool.true_or, Bool.or_true, Bool.false_or, Bool.or_false, Bool.true_and, Bool.and_true, Bool.false_and, Bool.and_false, Bool.not_true, Bool.not_false, Bool.cond_true, Bool.cond_false]; done)) | simp [b0, hq11, b0])) (hc rfl (hc rfl (hc rfl (hc rfl (hc rfl (hc rfl (hc rfl hn)))))))))⟩
    ·refine xi (qn ?_)
     exact ⟨rfl, (hc rfl (hc (show ((.int .u64 u) : Value) = (.int .u64 b3) from (by first | rfl | ((try rw [b0]); (try rw [hq11]); (try rw [b0]); all_goals first | rfl | (simp only [Bool.true_or, Bool.or_true, Bool.false_or, Bool.or_false, Bool.true_and, Bool.and_true, Bool.false_and, Bool.and_false, Bool.not_true, Bool.not_false, Bool.cond_true, Bool.cond_false]; done)) | simp [b0, hq11, b0])) (hc rfl (hc rfl (hc rfl (hc rfl (hc rfl (hc rfl (hc rfl hn)))))))))⟩
   ·rintro ρ _ ⟨rfl, hH⟩
    refine xh _ hH ?_
    obtain ⟨c0, d2, d1⟩ := H
    refine xk (fun ρ h' => ∃ i : Int, (c0 i h' ∧ True) ∧ Has ρ [(0, (.slice b4 a7 a6)), (3, (.bool a8)), (4, (.bool a4)), (10, (.slice none 0 0)), (11, (.string ByteArray.empty)), (12, (ptr a 0)), (13, (.int .i64 i))]) ?_ ?_
    ·have H := d2; clear d2 d1
     refine xs (xr ?_)
     refine lv rfl rfl (vm rfl) ?_
     refine lp rfl rfl (sc TyTD.cb147 rfl (HC.mono H ?_))
     rintro _ h3 ⟨r, rfl, H⟩
     refine ln (qn ?_)
     refine xc (b := r) rfl (fun c9 => ?_) (fun c9 => ?_)
     ·replace H := H.1 c9
      refine xs (xr ?_)
      refine lv rfl rfl (vm rfl) (lv rfl rfl (v := (.int .u64 (IntKind.u64.wrap a0))) (hv_convInt TyTD.u3 TyTD.u88 rfl) ?_)
      refine lp rfl rfl (sc TyTD.cb148 rfl (HC.mono H ?_))
      rintro _ h4 ⟨b1, rfl, H⟩
      refine lv rfl rfl (v := (.int .u64 (IntKind.u64.wrap b1))) (hv_convInt TyTD.u3 TyTD.u88 rfl) (lv rfl rfl (va rfl) ?_)
      refine ln (qn (xs (xr ?_)))
      refine lv rfl rfl (vm rfl) (lv rfl rfl (v := (.int .u64 (IntKind.u64.wrap a0))) (hv_convInt TyTD.u3 TyTD.u125 rfl) (lv rfl rfl (va rfl) ?_))
      refine ln (qn (xs (xr ?_)))
      refine lv rfl rfl (vm rfl) (lv rfl rfl (v := (.int .u64 (IntKind.u64.wrap a0))) (hv_convInt TyTD.u3 TyTD.u88 rfl) (lv rfl rfl (vr rfl rfl rfl) (lv rfl rfl (va rfl) ?_)))
      refine ln (qn (xs (xb ?_)))
      obtain ⟨c1, b6, i7, g3⟩ := H
      refine xl (σ := Int × Int) (fun s => [(0, (.slice b4 a7 a6)), (1, (.int .u64 s.1)), (3, (.bool a8)), (4, (.bool a4)), (10, (.slice none 0 0)), (11, (.string ByteArray.empty)), (12, (ptr a 0)), (13, (.int .i64 s.2)), (14, (.int .u64 (IntKind.u64.wrap b1))), (15, (.int .u64 (IntKind.u64.wrap a0))), (16, (.int .u64 (IntKind.u64.wrap ((IntKind.u64.wrap a0) - 1))))]) (fun s h' => c1 s.1 s.2 h' ∧ True) (fun s h' => b6 s.1 s.2 h') (b3, 65) ⟨i7, trivial⟩ (hc rfl (hc rfl (hc rfl (hc rfl (hc rfl (hc rfl (hc rfl (hc rfl (hc rfl (hc rfl (hc rfl hn))))))))))) ?_
      rintro ⟨a2, a1⟩ ρ h5 ⟨i5, -⟩
      have H := g3 a2 a1 h5 i5
      refine xs (xs (xr ?_))
      refine lv rfl rfl (vm rfl) (lv rfl rfl (vm rfl) (lv rfl rfl (vr rfl rfl rfl) ?_))
      refine ln (qn ?_)
      refine xc (b := decide (a2 ≥ (IntKind.u64.wrap a0))) rfl (fun d0 => ?_) (fun d0 => ?_)
      ·replace H := H.1 d0
       refine xi (qn (xb (xs (xr ?_))))
       refine lv rfl rfl (vm rfl) (lv rfl rfl (vr rfl rfl rfl) (lv rfl rfl (va rfl) ?_))
       refine ln (qn (xs (xr ?_)))
       refine lv rfl rfl (vm rfl) (lv rfl rfl (vm rfl) (lv rfl rfl (vm rfl) (lv rfl rfl (v := (.int .u64 (iband .u64 a2 (IntKind.u64.wrap ((IntKind.u64.wrap a0) - 1))))) (hv_bits rfl rfl rfl) ?_)))
       obtain ⟨i9, a5, f1, H⟩ := H
       refine lv rfl rfl (v := (.int .u8 (UInt8.toNat a5 : Int))) (hv_indexStr TyTD.u9 rfl rfl i9 f1) ?_
       obtain ⟨g1, g8, H⟩ := H
       refine lv rfl rfl (v := (ptr a (0 + (Int.toNat (IntKind.i64.wrap (a1 - 1))) * 1))) (hv_indexA TyTD.ea179 (b := a) (o := 0) rfl rfl g1 g8) ?_
       obtain ⟨j1, H⟩ := H
       refine lp rfl rfl (hn_store (v := (.int .u8 (UInt8.toNat a5 : Int))) rfl rfl TyTD.sz5 rfl j1 ?_)
       intro h6 e7
       replace H := H h6 e7
       refine ln (qn (xr ?_))
       refine lv rfl rfl (vm rfl) (lv rfl rfl (vm rfl) ?_)
       obtain ⟨e3, H⟩ := H
       refine lv rfl rfl (v := (.int .u64 (Int.fdiv a2 (2 ^ min (Int.toNat (IntKind.u64.wrap b1)) 64)))) (hv_shift rfl rfl e3 rfl) (lv rfl rfl (va rfl) ?_)
       refine ln (bn (qn ?_))
       exact ⟨(Int.fdiv a2 (2 ^ min (Int.toNat (IntKind.u64.wrap b1)) 64), IntKind.i64.wrap (a1 - 1)), ⟨⟨H.1, trivial⟩, H.2⟩, (hc rfl (hc rfl (hc rfl (hc rfl (hc rfl (hc rfl (hc rfl (hc rfl (hc rfl (hc rfl (hc rfl hn)))))))))))⟩
      ·replace H := H.2 d0
       refine xe (qe (qe (bh (qn (xs (xr ?_))))))
       refine lv rfl rfl (vm rfl) (lv rfl rfl (vr rfl rfl rfl) (lv rfl rfl (va rfl) ?_))
       refine ln (qn (xr ?_))
       refine lv rfl rfl (vm rfl) (lv rfl rfl (vm rfl) ?_)
       obtain ⟨e8, a5, g0, H⟩ := H
       refine lv rfl rfl (v := (.int .u8 (UInt8.toNat a5 : Int))) (hv_indexStr TyTD.u9 rfl rfl e8 g0) ?_
       obtain ⟨j2, f6, H⟩ := H
       refine lv rfl rfl (v := (ptr a (0 + (Int.toNat (IntKind.i64.wrap (a1 - 1))) * 1))) (hv_indexA TyTD.ea179 (b := a) (o := 0) rfl rfl j2 f6) ?_
       obtain ⟨g7, H⟩ := H
       refine lp rfl rfl (hn_store (v := (.int .u8 (UInt8.toNat a5 : Int))) rfl rfl TyTD.sz5 rfl g7 ?_)
       intro h7 e5
       replace H := H h7 e5
       refine ln (qn ?_)
       exact ⟨_, ⟨H, trivial⟩, (hc rfl (hc rfl (hc rfl (hc rfl (hc rfl (hc rfl (hc rfl hn)))))))⟩
     ·replace H := H.2 c9
      refine xs (xr ?_)
      refine lv rfl rfl (vm rfl) (lv rfl rfl (v := (.int .u64 (IntKind.u64.wrap a0))) (hv_convInt TyTD.u3 TyTD.u125 rfl) (lv rfl rfl (va rfl) ?_))
      refine ln (qn (xs (xb ?_)))
      obtain ⟨c3, b7, f3, g6⟩ := H
      refine xl (σ := Int × Int) (fun s => [(0, (.slice b4 a7 a6)), (1, (.int .u64 s.1)), (3, (.bool a8)), (4, (.bool a4)), (10, (.slice none 0 0)), (11, (.string ByteArray.empty)), (12, (ptr a 0)), (13, (.int .i64 s.2)), (17, (.int .u64 (IntKind.u64.wrap a0)))]) (fun s h' => c3 s.1 s.2 h' ∧ True) (fun s h' => b7 s.1 s.2 h') (b3, 65) ⟨f3, trivial⟩ (hc rfl (hc rfl (hc rfl (hc rfl (hc rfl (hc rfl (hc rfl (hc rfl (hc rfl hn))))))))) ?_
      rintro ⟨a2, a1⟩ ρ h8 ⟨f7, -⟩
      have H := g6 a2 a1 h8 f7
      refine xs (xs (xr ?_))
      refine lv rfl rfl (vm rfl) (lv rfl rfl (vm rfl) (lv rfl rfl (vr rfl rfl rfl) ?_))
      refine ln (qn ?_)
      refine xc (b := decide (a2 ≥ (IntKind.u64.wrap a0))) rfl (fun c5 => ?_) (fun c5 => ?_)
      ·replace H := H.1 c5
       refine xi (qn (xb (xs (xr ?_))))
       refine lv rfl rfl (vm rfl) (lv rfl rfl (vr rfl rfl rfl) (lv rfl rfl (va rfl) ?_))
       refine ln (qn (xs (xr ?_)))
       refine lv rfl rfl (vm rfl) (lv rfl rfl (vm rfl) ?_)
       obtain ⟨f2, H⟩ := H
       refine lv rfl rfl (v := (.int .u64 (IntKind.u64.wrap (Int.tdiv a2 (IntKind.u64.wrap a0))))) (hv_quo rfl rfl f2) (lv rfl rfl (va rfl) ?_)
       refine ln (qn (xs (xr ?_)))
       refine lv rfl rfl (vm rfl) (lv rfl rfl (vm rfl) (lv rfl rfl (vm rfl) (lv rfl rfl (vm rfl) (lv rfl rfl (vr rfl rfl rfl) (lv rfl rfl (vr rfl rfl rfl) ?_)))))
       obtain ⟨e0, a5, g9, H⟩ := H
       refine lv rfl rfl (v := (.int .u8 (UInt8.toNat a5 : Int))) (hv_indexStr TyTD.u9 rfl rfl e0 g9) ?_
       obtain ⟨e9, i2, H⟩ := H
       refine lv rfl rfl (v := (ptr a (0 + (Int.toNat (IntKind.i64.wrap (a1 - 1))) * 1))) (hv_indexA TyTD.ea179 (b := a) (o := 0) rfl rfl e9 i2) ?_
       obtain ⟨i4, H⟩ := H
       refine lp rfl rfl (hn_store (v := (.int .u8 (UInt8.toNat a5 : Int))) rfl rfl TyTD.sz5 rfl i4 ?_)
       intro h9 e4
       replace H := H h9 e4
       refine ln (qn (xr ?_))
       refine lv rfl rfl (vm rfl) (lv rfl rfl (va rfl) ?_)
       refine ln (bn (qn ?_))
       exact ⟨(IntKind.u64.wrap (Int.tdiv a2 (IntKind.u64.wrap a0)), IntKind.i64.wrap (a1 - 1)), ⟨⟨H.1, trivial⟩, H.2⟩, (hc rfl (hc rfl (hc rfl (hc rfl (hc rfl (hc rfl (hc rfl (hc rfl (hc rfl hn)))))))))⟩
      ·replace H := H.2 c5
       refine xe (qe (qe (bh (qn (xs (xr ?_))))))
       refine lv rfl rfl (vm rfl) (lv rfl rfl (vr rfl rfl rfl) (lv rfl rfl (va rfl) ?_))
       refine ln (qn (xr ?_))
       refine lv rfl rfl (vm rfl) (lv rfl rfl (vm rfl) ?_)
       obtain ⟨g4, a5, e2, H⟩ := H
       refine lv rfl rfl (v := (.int .u8 (UInt8.toNat a5 : Int))) (hv_indexStr TyTD.u9 rfl rfl g4 e2) ?_
       obtain ⟨e6, i0, H⟩ := H
       refine lv rfl rfl (v := (ptr a (0 + (Int.toNat (IntKind.i64.wrap (a1 - 1))) * 1))) (hv_indexA TyTD.ea179 (b := a) (o := 0) rfl rfl e6 i0) ?_
       obtain ⟨f5, H⟩ := H
       refine lp rfl rfl (hn_store (v := (.int .u8 (UInt8.toNat a5 : Int))) rfl rfl TyTD.sz5 rfl f5 ?_)
       intro d4 i3
       replace H := H d4 i3
       refine ln (qn ?_)
       exact ⟨_, ⟨H, trivial⟩, (hc rfl (hc rfl (hc rfl (hc rfl (hc rfl (hc rfl (hc rfl hn)))))))⟩
    ·rintro ρ h2 ⟨i, ⟨g2, -⟩, hH⟩
     have H := d1 i h2 g2; clear d2 d1
     refine xh _ hH ?_
     obtain ⟨c2, c8, c4⟩ := H
     refine xk (fun ρ h' => ∃ a3 : Int, (c2 a3 h' ∧ True) ∧ Has ρ [(0, (.slice b4 a7 a6)), (4, (.bool a4)), (10, (.slice none 0 0)), (11, (.string ByteArray.empty)), (12, (ptr a 0)), (13, (.int .i64 a3))]) ?_ ?_
     ·have H := c8; clear c8 c4
      refine xs (xr ?_)
      refine lv rfl rfl (vm rfl) ?_
      refine ln (qn ?_)
      refine xc (b := a8) rfl (fun c6 => ?_) (fun c6 => ?_)
      ·replace H := H.1 c6
       refine xs (xr ?_)
       refine lv rfl rfl (vm rfl) (lv rfl rfl (vr rfl rfl rfl) (lv rfl rfl (va rfl) ?_))
       refine ln (qn (xr ?_))
       refine lv rfl rfl (vm rfl) ?_
       obtain ⟨j0, e1, H⟩ := H
       refine lv rfl rfl (v := (ptr a (0 + (Int.toNat (IntKind.i64.wrap (i - 1))) * 1))) (hv_indexA TyTD.ea179 (b := a) (o := 0) rfl rfl j0 e1) ?_
       obtain ⟨f4, H⟩ := H
       refine lp rfl rfl (hn_store (v := (.int .u8 45)) rfl rfl TyTD.sz5 rfl f4 ?_)
       intro d3 i6
       replace H := H d3 i6
       refine ln (qn ?_)
       exact ⟨_, ⟨H, trivial⟩, (hc rfl (hc rfl (hc rfl (hc rfl (hc rfl (hc rfl hn))))))⟩
      ·replace H := H.2 c6
       refine xi (qn ?_)
       exact ⟨_, ⟨H, trivial⟩, (hc rfl (hc rfl (hc rfl (hc rfl (hc rfl (hc rfl hn))))))⟩
     ·rintro ρ b5 ⟨a3, ⟨i1, -⟩, hH⟩
      have H := c4 a3 b5 i1; clear c8 c4
      refine xh _ hH ?_
      refine xs (xs (xr ?_))
      refine lv rfl rfl (vm rfl) ?_
      refine ln (qn ?_)
      refine xc (b := a4) rfl (fun c7 => ?_) (fun c7 => ?_)
      ·replace H := H.1 c7
       refine xs (xr ?_)
       refine lv rfl rfl (vm rfl) (lv rfl rfl (vm rfl) ?_)
       obtain ⟨f0, d8, f8, H⟩ := H
       obtain ⟨sl, hq69⟩ : ∃ q, q = slA (some ⟨a, 0, none⟩) (Int.toNat a3) 1 65 := ⟨_, rfl⟩
       replace H := H sl hq69
       refine lv rfl rfl (v := (.slice sl (Int.toNat (65 : Nat) - Int.toNat a3) (65 - Int.toNat a3))) (hv_sliceA (l := a3) (r := (65 : Nat)) TyTD.u179 TyTD.sz5 rfl (sl_some rfl) sh_none f0 d8 f8 hq69) ?_
       refine lp rfl rfl (hs_append rfl rfl (HAppend.mono H ?_))
       rintro _ d6 ⟨ap, b8, b9, rfl, H⟩
       refine lv rfl rfl (va rfl) ?_
       refine ln (qn (xt (qr ?_)))
       exact endQ_ret _ (res_two Tryz.results139 (rv_tmp rfl) (rv_tmp rfl)) H
      ·replace H := H.2 c7
       refine xi (qn (xs (xr ?_)))
       refine lv rfl rfl (vm rfl) ?_
       obtain ⟨d9, f9, i8, H⟩ := H
       obtain ⟨sl, hq73⟩ : ∃ q, q = slA (some ⟨a, 0, none⟩) (Int.toNat a3) 1 65 := ⟨_, rfl⟩
       replace H := H sl hq73
       refine lv rfl rfl (v := (.slice sl (Int.toNat (65 : Nat) - Int.toNat a3) (65 - Int.toNat a3))) (hv_sliceA (l := a3) (r := (65 : Nat)) TyTD.u179 TyTD.sz5 rfl (sl_some rfl) sh_none d9 f9 i8 hq73) ?_
       obtain ⟨bs, g5, H⟩ := H
       refine lv rfl rfl (v := (.string (ofL bs))) (hv_b2s TyTD.u169 TyTD.u5 TyTD.u9 rfl g5) (lv rfl rfl (va rfl) ?_)
       refine ln (qn (xt ?_))
       exact endQ_ret _ (res_two Tryz.results139 (rv_tmp rfl) (rv_tmp rfl)) H
theorem f147_sh (x : Int) (h : Heap) (R : Value → Heap → Prop)
  (H : R (.bool ((iband .i64 x (IntKind.i64.wrap (x - 1))) == 0)) h) :
  HC Tryz.prog 147 #[(.int .i64 x)] h R := by
 refine hc_of (args := [(.int .i64 x)]) Tryz.func147 rfl Tryz.ntmps147 (Nat.le_of_ble_eq_true rfl) ?_
 refine xs (xr ?_)
 refine lv rfl rfl (va rfl) ?_
 refine ln (qn (xs (xr ?_)))
 refine lv rfl rfl (vm rfl) (lv rfl rfl (vm rfl) (lv rfl rfl (vr rfl rfl rfl) (lv rfl rfl (v := (.int .i64 (iband .i64 x (IntKind.i64.wrap (x - 1))))) (hv_bits rfl rfl rfl) (lv rfl rfl (vr rfl rfl rfl) (lv rfl rfl (va rfl) ?_)))))
 refine ln (qn (xt ?_))
 exact endQ_ret _ (res_one Tryz.results147 (rv_tmp rfl)) H
theorem f120_sh (i : Int) (a0 : Int) (h : Heap) (R : Value → Heap → Prop)
  (H : (((a0 == 10) = true → (((decide (i < 100)) = true → HC Tryz.prog 136 #[(.int .i64 (IntKind.i64.wrap i))] h (fun vv h1 => ∃ r : ByteArray, vv = (.string r) ∧ R (.string r) h1)) ∧ ((decide (i < 100)) = false → (∀ a h2, a = Array.size h → h2 = Array.push h (.cells #[(.int .u8 0), (.int .u8 0), (.int .u8 0), (.int .u8 0), (.int .u8 0), (.int .u8 0), (.int .u8 0), (.int .u8 0), (.int .u8 0), (.int .u8 0), (.int .u8 0), (.int .u8 0), (.int .u8 0), (.int .u8 0), (.int .u8 0), (.int .u8 0), (.int .u8 0), (.int .u8 0), (.int .u8 0), (.int .u8 0), (.int .u8 0), (.int .u8 0), (.int .u8 0), (.int .u8 0)] 167) → HC Tryz.prog 137 #[(.int .u64 i)] h2 (fun vv h3 => ∃ r : Int, vv = (.int .i64 r) ∧ (0 ≤ ((0 : Int) : Int) ∧ (0 : Int) ≤ (r : Int) ∧ (r : Int) ≤ (24 : Nat) ∧ ∀ sl : Option Addr, sl = slA (some ⟨a, 0, none⟩) (Int.toNat 0) 1 24 → HC Tryz.prog 138 #[(.slice sl (Int.toNat r - Int.toNat 0) (24 - Int.toNat 0)), (.int .u64 i)] h3 (fun vv h4 => vv = (.tuple #[]) ∧ (0 ≤ ((0 : Int) : Int) ∧ (0 : Int) ≤ (r : Int) ∧ (r : Int) ≤ (24 : Nat) ∧ ∀ a3 : Option Addr, a3 = slA (some ⟨a, 0, none⟩) (Int.toNat 0) 1 24 → (∃ bs : List Int, Byt h4 a3 (Int.toNat r - Int.toNat 0) bs ∧ R (.string (ofL bs)) h4))))))))) ∧ ((a0 == 10) = false → HC Tryz.prog 139 #[(.slice none 0 0), (.int .u64 i), (.int .i64 a0), (.bool false), (.bool false)] h (fun vv h5 => ∃ r0 : Option Addr, ∃ a2 a1 : Nat, ∃ r1 : ByteArray, vv = (.tuple #[(.slice r0 a2 a1), (.string r1)]) ∧ R (.string r1) h5)))) :
  HC Tryz.prog 120 #[(.int .u64 i), (.int .i64 a0)] h R := by
 refine hc_of (args := [(.int .u64 i), (.int .i64 a0)]) Tryz.func120 rfl Tryz.ntmps120 (Nat.le_of_ble_eq_true rfl) ?_
 refine xs (xr ?_)
 refine lv rfl rfl (va rfl) ?_
 refine ln (qn (xs (xs (xr ?_))))
 refine lv rfl rfl (vm rfl) (lv rfl rfl (vr rfl rfl rfl) ?_)
 refine ln (qn ?_)
 refine xc (b := a0 == 10) rfl (fun a5 => ?_) (fun a5 => ?_)
 ·replace H := H.1 a5
  refine xs (xs (xr ?_))
  refine lv rfl rfl (vm rfl) (lv rfl rfl (vr rfl rfl rfl) ?_)
  refine ln (qn ?_)
  refine xc (b := decide (i < 100)) rfl (fun a4 => ?_) (fun a4 => ?_)
  ·replace H := H.1 a4
   refine xs (xr ?_)
   refine lv rfl rfl (vm rfl) (lv rfl rfl (v := (.int .i64 (IntKind.i64.wrap i))) (hv_convInt TyTD.u125 TyTD.u3 rfl) ?_)
   refine lp rfl rfl (sc TyTD.cb136 rfl (HC.mono H ?_))
   rintro _ h1 ⟨r, rfl, H⟩
   refine lv rfl rfl (va rfl) ?_
   refine ln (qn (xt (qr (qr ?_))))
   exact endQ_ret _ (res_one Tryz.results120 (rv_tmp rfl)) H
  ·replace H := H.2 a4
   refine xi (qn (xs (xr ?_)))
   refine lp rfl rfl (hn_alloc TyTD.z167 ?_)
   intro a h2 b2 a6
   replace H := H a h2 b2 a6
   have b5 := ext_pushed_f121_sh a6
   refine ln (qn (xs (xr ?_)))
   refine lv rfl rfl (vm rfl) ?_
   refine lp rfl rfl (sc TyTD.cb137 rfl (HC.mono H ?_))
   rintro _ h3 ⟨r, rfl, H⟩
   refine lv rfl rfl (va rfl) ?_
   refine ln (qn (xs (xr ?_)))
   refine lv rfl rfl (vm rfl) ?_
   obtain ⟨b4, b1, b3, H⟩ := H
   obtain ⟨sl, hq9⟩ : ∃ q, q = slA (some ⟨a, 0, none⟩) (Int.toNat 0) 1 24 := ⟨_, rfl⟩
   replace H := H sl hq9
   refine lv rfl rfl (v := (.slice sl (Int.toNat r - Int.toNat 0) (24 - Int.toNat 0))) (hv_sliceA (l := 0) (r := r) TyTD.u167 TyTD.sz5 rfl sl_none (sh_some rfl) b4 b1 b3 hq9) (lv rfl rfl (vm rfl) ?_)
   refine lp rfl rfl (sc TyTD.cb138 rfl (HC.mono H ?_))
   rintro _ h4 ⟨rfl, H⟩
   refine ln (qn (xs (xr ?_)))
   refine lv rfl rfl (vm rfl) ?_
   obtain ⟨b0, a8, a7, H⟩ := H
   obtain ⟨a3, hq13⟩ : ∃ q, q = slA (some ⟨a, 0, none⟩) (Int.toNat 0) 1 24 := ⟨_, rfl⟩
   replace H := H a3 hq13
   refine lv rfl rfl (v := (.slice a3 (Int.toNat r - Int.toNat 0) (24 - Int.toNat 0))) (hv_sliceA (l := 0) (r := r) TyTD.u167 TyTD.sz5 rfl sl_none (sh_some rfl) b0 a8 a7 hq13) ?_
   obtain ⟨bs, a9, H⟩ := H
   refine lv rfl rfl (v := (.string (ofL bs))) (hv_b2s TyTD.u169 TyTD.u5 TyTD.u9 rfl a9) (lv rfl rfl (va rfl) ?_)
   refine ln (qn (xt (qr ?_)))
   exact endQ_ret _ (res_one Tryz.results120 (rv_tmp rfl)) H
 ·replace H := H.2 a5
  refine xi (qn (xs (xr ?_)))
  refine lv rfl rfl (vm rfl) (lv rfl rfl (vm rfl) ?_)
  refine lp rfl rfl (sc TyTD.cb139 rfl (HC.mono H ?_))
  rintro _ h5 ⟨r0, a2, a1, r1, rfl, H⟩
  refine lv rfl rfl (vm rfl) (lv rfl rfl (vx rfl rfl) (lv rfl rfl (vx rfl rfl) (lv rfl rfl (va rfl) (lv rfl rfl (va rfl) ?_))))
  refine ln (qn (xs (xr ?_)))
  refine lv rfl rfl (vm rfl) (lv rfl rfl (va rfl) ?_)
  refine ln (qn (xt ?_))
  exact endQ_ret _ (res_one Tryz.results120 (rv_tmp rfl)) H
theorem f102_sh (i : Int) (a0 : Int) (h : Heap) (R : Value → Heap → Prop)
  (H : HC Tryz.prog 120 #[(.int .u64 i), (.int .i64 a0)] h (fun vv h1 => ∃ r : ByteArray, vv = (.string r) ∧ R (.string r) h1)) :
  HC Tryz.prog 102 #[(.int .u64 i), (.int .i64 a0)] h R := by
 refine hc_of (args := [(.int .u64 i), (.int .i64 a0)]) Tryz.func102 rfl Tryz.ntmps102 (Nat.le_of_ble_eq_true rfl) ?_
 refine xs (xr ?_)
 refine lv rfl rfl (va rfl) ?_
 refine ln (qn (xs (xr ?_)))
 refine lv rfl rfl (vm rfl) (lv rfl rfl (vm rfl) ?_)
 refine lp rfl rfl (sc TyTD.cb120 rfl (HC.mono H ?_))
 rintro _ h1 ⟨r, rfl, H⟩
 refine lv rfl rfl (va rfl) ?_
 refine ln (qn (xt ?_))
 exact endQ_ret _ (res_one Tryz.results102 (rv_tmp rfl)) H
theorem f103_sh (b : Bool) (h : Heap) (R : Value → Heap → Prop)
  (H : HC Tryz.prog 121 #[(.bool b)] h (fun vv h1 => ∃ r : ByteArray, vv = (.string r) ∧ R (.string r) h1)) :
  HC Tryz.prog 103 #[(.bool b)] h R := by
 refine hc_of (args := [(.bool b)]) Tryz.func103 rfl Tryz.ntmps103 (Nat.le_of_ble_eq_true rfl) ?_
 refine xs (xr ?_)
 refine lv rfl rfl (va rfl) ?_
 refine ln (qn (xs (xr ?_)))
 refine lv rfl rfl (vm rfl) ?_
 refine lp rfl rfl (sc TyTD.cb121 rfl (HC.mono H ?_))
 rintro _ h1 ⟨r, rfl, H⟩
 refine lv rfl rfl (va rfl) ?_
 refine ln (qn (xt ?_))
 exact endQ_ret _ (res_one Tryz.results103 (rv_tmp rfl)) H
theorem f121_sh (b : Bool) (h : Heap) (R : Value → Heap → Prop)
  (H : ((b = true → R (.string (ByteArray.mk #[116, 114, 117, 101])) h) ∧ (b = false → R (.string (ByteArray.mk #[102, 97, 108, 115, 101])) h))) :
  HC Tryz.prog 121 #[(.bool b)] h R := by
 refine hc_of (args := [(.bool b)]) Tryz.func121 rfl Tryz.ntmps121 (Nat.le_of_ble_eq_true rfl) ?_
 refine xs (xr ?_)
 refine lv rfl rfl (va rfl) ?_
 refine ln (qn (xs (xs (xr ?_))))
 refine lv rfl rfl (vm rfl) ?_
 refine ln (qn ?_)
 refine xc (b := b) rfl (fun a0 => ?_) (fun a0 => ?_)
 ·replace H := H.1 a0
  refine xs (xr ?_)
  refine lv rfl rfl (va rfl) ?_
  refine ln (qn (xt (qr ?_)))
  exact endQ_ret _ (res_one Tryz.results121 (rv_tmp rfl)) H
 ·replace H := H.2 a0
  refine xi (qn (xs (xr ?_)))
  refine lv rfl rfl (va rfl) ?_
  refine ln (qn (xt ?_))
  exact endQ_ret _ (res_one Tryz.results121 (rv_tmp rfl)) H
end Go.Proofs.YtfjcciaabkjkgaaGreatDoor
namespace Go.Proofs.YtfjcciaabkjkgaaGreatDoor
open Go Ml
def digB (k : Nat) : UInt8 := UInt8.ofNat (if k < 10 then 48 + k else 87 + k)
theorem dig_at : ∀ k, k < 36 → (ByteArray.mk #[48, 49, 50, 51, 52, 53, 54, 55, 56, 57, 97, 98, 99, 100, 101, 102, 103, 104, 105, 106, 107, 108, 109, 110, 111, 112, 113, 114, 115, 116, 117, 118, 119, 120, 121, 122])[k]? = some (digB k) ∧ ((digB k).toNat : Int) = Go.Lib.hexDigit k := by decide +kernel
theorem d36_step {g m : Nat} (h : 36 ≤ m) : d36 (g + 1) m = d36 g (m / 36) ++ [Go.Lib.hexDigit (m % 36)] := by
  rw [d36, if_neg (by omega)]
theorem d36_last {g m : Nat} (h : m < 36) : d36 (g + 1) m = [Go.Lib.hexDigit m] := by
  rw [d36, if_pos h, Nat.mod_eq_of_lt h]; rfl
def Dig (h : Heap) (a j : Nat) (D : List Int) : Prop := D.length + j = 65 ∧ ∃ cs : Array Value, h[a]? = some (.cells cs 179 (0, 0)) ∧ cs.size = 65 ∧ ∀ (q : Nat) x, D[q]? = some x → cs[j + q]? = some (.int .u8 x)
theorem dig_put {h h' : Heap} {a j : Nat} {D : List Int} {x : Int} (d : Dig h a j D) (hj : 0 < j) (e : h' = hset h a (j - 1) (.int .u8 x)) : Dig h' a (j - 1) (x :: D) := by
  obtain ⟨h1, cs, r, h2, h3⟩ := d
  refine ⟨by simp only [List.length_cons]; omega, cs.setIfInBounds (j - 1) (.int .u8 x), by rw [e, hset_row r], by simpa using h2, fun q y hq => ?_⟩
  cases q with
  | zero =>
    simp only [List.getElem?_cons_zero, Option.some.injEq] at hq
    subst hq
    rw [Nat.add_zero, Array.getElem?_setIfInBounds_self_of_lt (by omega)]
  | succ q =>
    rw [List.getElem?_cons_succ] at hq
    rw [Array.getElem?_setIfInBounds_ne (by omega), show j - 1 + (q + 1) = j + q by omega]
    exact h3 q y hq
theorem dig_w {h : Heap} {a j : Nat} {D : List Int} (d : Dig h a j D) (hj : 0 < j) : HW h a (j - 1) := by
  obtain ⟨h1, cs, r, h2, h3⟩ := d
  exact HW_row r (by omega)
set_option maxHeartbeats 4000000 in
theorem bits_c (n : Nat) (hn : n < 4294967296) (h : Heap) : HC Tryz.prog 139 #[.slice none 0 0, .int .u64 n, .int .i64 36, .bool false, .bool false] h fun v h' => v = .tuple #[.slice none 0 0, .string (ofL (d36 7 n))] ∧ Ext h h' := by
  refine f139_sh _ _ _ _ _ _ _ _ _ ⟨fun g => by simp at g, fun _ a h1 e1 eh1 u1 hu1 => ?_⟩
  have x1 : Ext h h1 := by rw [eh1]; exact Ext.push _ _
  have r1 := eh1 ▸ (push_new (o := .cells _ 179) e1)
  have hu : u1 = n := hu1
  subst hu
  have w36 : IntKind.u64.wrap 36 = 36 := by decide
  have ha : h.size ≤ a := by omega
  refine ⟨fun i h2 => ∃ j : Nat, i = j ∧ Ext h h2 ∧ Dig h2 a j (d36 7 n), f147_sh _ _ _ ⟨_, rfl, fun g => absurd g (by decide +kernel), fun _ => ?_⟩, ?_⟩
  · refine ⟨fun u i h8 => ∃ (m g j : Nat) (D : List Int), u = m ∧ i = j ∧ m < 36 ^ (g + 1) ∧ g + 1 + D.length ≤ 7 ∧ d36 7 n = d36 (g + 1) m ++ D ∧ Ext h h8 ∧ Dig h8 a j D, fun u _ _ => u.toNat,
      ⟨n, 6, 65, [], rfl, rfl, by omega, by decide, by rw [List.append_nil], x1, rfl, _, r1, rfl, fun q x hq => by simp at hq⟩, ?_⟩
    rintro _ _ h8 ⟨m, g, j, D, rfl, rfl, hm, hD, hd, x8, dg⟩
    have hj : 58 ≤ j := by have := dg.1; omega
    have hj2 : j ≤ 65 := by have := dg.1; omega
    have hmn : m < 18446744073709551616 := by
      have : 36 ^ (g + 1) ≤ 36 ^ 7 := Nat.pow_le_pow_right (by decide) (by omega)
      omega
    rw [w36]
    have wj : IntKind.i64.wrap ((j : Int) - 1) = ((j - 1 : Nat) : Int) := by rw [w64 (by omega) (by omega)]; omega
    have htd : Int.tdiv (m : Int) 36 = ((m / 36 : Nat) : Int) := by
      rw [Int.tdiv_eq_ediv_of_nonneg (by omega)]; rfl
    rw [wj, htd]
    have hdiv : m / 36 ≤ m := Nat.div_le_self _ _
    have w1 : IntKind.u64.wrap ((m / 36 : Nat) : Int) = ((m / 36 : Nat) : Int) := wu64 (by omega) (by omega)
    rw [w1]
    have w2 : IntKind.u64.wrap (((m / 36 : Nat) : Int) * 36) = ((m / 36 * 36 : Nat) : Int) := by rw [wu64 (by omega) (by omega)]; omega
    rw [w2]
    have w3 : IntKind.u64.wrap ((m : Int) - ((m / 36 * 36 : Nat) : Int)) = ((m % 36 : Nat) : Int) := by rw [wu64 (by omega) (by omega)]; omega
    rw [w3]
    refine ⟨fun hge => ?_, fun hlt => ?_⟩
    · have hge : 36 ≤ m := by have := of_decide_eq_true hge; omega
      obtain ⟨k1, k2⟩ := dig_at (m % 36) (Nat.mod_lt _ (by decide))
      obtain ⟨g', rfl⟩ : ∃ g', g = g' + 1 := by
        cases g with
        | zero => simp at hm; omega
        | succ g => exact ⟨g, rfl⟩
      refine ⟨by decide, by omega, digB (m % 36), k1, by omega, by omega, ?_, fun h9 e9 => ⟨⟨m / 36, g', j - 1, Go.Lib.hexDigit (m % 36) :: D, rfl, rfl, ?_, by simp only [List.length_cons]; omega, ?_, ?_, ?_⟩, ?_⟩⟩
      · have := dig_w dg (by omega)
        simpa using this
      · rw [Nat.pow_succ] at hm
        exact Nat.div_lt_of_lt_mul (by omega)
      · rw [hd, d36_step hge, List.append_assoc]; rfl
      · exact ext_hset e9 x8 ha
      · rw [k2] at e9
        refine dig_put dg (by omega) ?_
        rw [e9]; simp
      · show (((m / 36 : Nat) : Int)).toNat < ((m : Nat) : Int).toNat
        simp only [Int.toNat_natCast]; omega
    · have hlt : m < 36 := by have := of_decide_eq_false hlt; omega
      obtain ⟨k1, k2⟩ := dig_at m hlt
      refine ⟨by omega, digB m, by rw [Int.toNat_natCast]; exact k1, by omega, by omega, ?_, fun h10 e10 => ⟨j - 1, rfl, ext_hset e10 x8 ha, ?_⟩⟩
      · have := dig_w dg (by omega)
        simpa using this
      · rw [hd, d36_last hlt]
        rw [k2] at e10
        refine dig_put dg (by omega) ?_
        rw [e10]; simp
  · rintro _ h2 ⟨j, rfl, x2, dg⟩
    refine ⟨fun i h11 => ∃ j : Nat, i = j ∧ Ext h h11 ∧ Dig h11 a j (d36 7 n), ⟨fun g => (by cases g), fun _ => ⟨j, rfl, x2, dg⟩⟩, ?_⟩
    rintro _ h11 ⟨j, rfl, x11, h1, cs, r, h2, h3⟩
    refine ⟨fun g => (by cases g), fun _ => ⟨by omega, by omega, by omega, fun sl esl => ⟨d36 7 n, ⟨by rw [Int.toNat_natCast]; omega, ?_⟩, rfl, x11⟩⟩⟩
    rcases Nat.eq_zero_or_pos (d36 7 n).length with q | q
    · exact .inl (by rw [Int.toNat_natCast]; omega)
    · obtain ⟨o', e, ho⟩ := slA_some (b := a) (o := 0) (l := j) (sz := 1) (m := 65)
      have ho' : o' = 0 + j * 1 := ho (by omega)
      refine .inr ⟨a, o', ?_, HCells.mk fun i v hi => ?_⟩
      · rw [esl, Int.toNat_natCast]; exact e
      · rw [List.getElem?_map] at hi
        cases hx : (d36 7 n)[i]? with
        | none => rw [hx] at hi; cases hi
        | some x =>
          rw [hx] at hi
          simp only [Option.map_some, Option.some.injEq] at hi
          subst hi
          rw [hcell_row r, ho']
          have := h3 i x hx
          simpa using this
theorem fmt_c (n : Nat) (hn : n < 4294967296) (h : Heap) : HC Tryz.prog 102 #[.int .u64 n, .int .i64 36] h fun v h' => v = .string (ofL (d36 7 n)) ∧ Ext h h' := by
  refine f102_sh _ _ _ _ (f120_sh _ _ _ _ ⟨fun g => absurd g (by decide), fun _ => (bits_c n hn h).mono ?_⟩)
  rintro _ h' ⟨rfl, x⟩
  exact ⟨_, _, _, _, rfl, _, rfl, rfl, x⟩
theorem fbool_c (b : Bool) (h : Heap) : HC Tryz.prog 103 #[.bool b] h fun v h' => v = .string (ofL (fb b)) ∧ h' = h := by
  refine f103_sh _ _ _ (f121_sh _ _ _ ⟨fun e => ⟨_, rfl, ?_, rfl⟩, fun e => ⟨_, rfl, ?_, rfl⟩⟩)
  · subst e; congr 1
  · subst e; congr 1
end Go.Proofs.YtfjcciaabkjkgaaGreatDoor
namespace Go.Proofs.YtfjcciaabkjkgaaGreatDoor
open Go Ml Go.Lib
theorem ofL_cat (a b : List Int) : ofL (a ++ b) = ofL a ++ ofL b := by
  apply ByteArray.ext
  rw [ByteArray.data_append]
  simp [ofL]
theorem mtsL_app (T : PrintTabs) : ∀ a b : List Mt, mtsL T (a ++ b) = mtsL T a ++ mtsL T b
  | [], _ => rfl
  | x :: a, b => by rw [List.cons_append, mtsL, mtsL, mtsL_app T a b]; simp
theorem mtsL_len (T : PrintTabs) {B : Nat} : ∀ s : List Mt, (∀ x ∈ s, x.val.size ≤ B) → (mtsL T s).length ≤ s.length * (10 * B + 8)
  | [], _ => Nat.zero_le _
  | x :: s, h => by
    have h1 := mtsL_len T s fun y hy => h y (by simp [hy])
    have h2 := quoteZ_length_le T x.val
    have h3 := h x (by simp)
    have h4 : (fb x.has).length ≤ 5 := by cases x.has <;> decide
    rw [mtsL, List.length_cons, List.length_append, List.length_append, List.length_cons, Nat.succ_mul]
    omega
theorem d36_len : ∀ f n, (d36 f n).length ≤ f
  | 0, _ => Nat.le_refl _
  | f + 1, n => by
    rw [d36, List.length_append]
    have := d36_len f (n / 36)
    split
    · simp
    · simp only [List.length_cons, List.length_nil]; omega
theorem fit_e : Fit Ext := ⟨fun _ _ x => x, fun _ _ _ => Ext.trans⟩
set_option maxHeartbeats 4000000 in
theorem state_c {Tb : Heap → Prop} (T : PrintTabs) (hx : ∀ {h h'}, Ext h h' → Tb h → Tb h') (hq : ∀ {h : Heap} (x : ByteArray), Tb h → x.size ≤ 1048576 → HC Tryz.prog 104 #[.string x] h fun v h' => v = .string (ofL (quoteZ T x)) ∧ Ext h h')
    {h : Heap} {left : Nat} {s : List Mt} {a : Option Addr} {c : Nat} (tb : Tb h) (h32 : left < 4294967296) (hs : ∀ x ∈ s, x.val.size ≤ 1048576) (hl : s.length ≤ 1048576) (sl : Sl eMt h a c s) :
    HC Tryz.prog 84 #[.int .u32 (left : Nat), .slice a s.length c] h fun v h' => v = .string (ofL (nameL T left s)) ∧ Ext h h' := by
  have hw : IntKind.u64.wrap ((left : Nat) : Int) = ((left : Nat) : Int) := wu64 (by omega) (by omega)
  refine f84_sh _ _ _ _ _ _ ?_
  rw [hw]
  refine (fmt_c left h32 h).mono ?_
  rintro _ h1 ⟨rfl, x1⟩
  refine ⟨_, rfl, fun out v h2 => ∃ k : Nat, v = k ∧ k ≤ s.length ∧ Ext h h2 ∧ out = ofL (d36 7 left ++ mtsL T (s.take k)), fun _ v _ => s.length - v.toNat, ⟨0, rfl, Nat.zero_le _, x1, by rw [List.take_zero, mtsL, List.append_nil]⟩, ?_⟩
  rintro _ _ h2 ⟨k, rfl, hk, x2, rfl⟩
  refine ⟨fun hlt => ?_, fun hge => ?_⟩
  · have hkl := lt_of_dec hlt
    obtain ⟨b, o, e, d⟩ := (sl.ext x2).at (List.getElem?_eq_getElem hkl)
    refine ⟨b, o, e, by omega, by omega, _, _, d.1, d.2.1, Ext, fit_e, fun m h4 lo lt x4 => ⟨fun _ f => f.kp _, (fbool_c s[k].has h4).mono ?_⟩⟩
    rintro _ h7 ⟨rfl, e7⟩
    have e7 := e7.symm
    subst e7
    have hf : (fb s[k].has).length ≤ 5 := by cases s[k].has <;> decide
    have hv := hs s[k] (List.getElem_mem hkl)
    have hqz := quoteZ_length_le T s[k].val
    refine ⟨Ext.refl _, (Ext.refl _).kp _, _, rfl, by rw [ofL_size]; show 1 + _ ≤ _; omega, (hq s[k].val (hx (x2.trans x4) tb) hv).mono ?_⟩
    rintro _ h8 ⟨rfl, x8⟩
    have e32 : ByteArray.mk #[32] = ofL [32] := rfl
    have hm := mtsL_len T (B := 1048576) (s.take k) fun x hx => hs x (List.mem_of_mem_take hx)
    have hmk : (mtsL T (s.take k)).length ≤ 1048576 * 10485768 := Nat.le_trans hm (by rw [List.length_take]; exact Nat.mul_le_mul (by omega) (by omega))
    have hd := d36_len 7 left
    rw [e32, ← ofL_cat]
    refine ⟨_, rfl, ?_, ?_, ?_, ?_⟩
    · rw [ofL_size, ofL_size, List.length_append]; simp only [List.length_cons, List.length_nil]; omega
    · rw [← ofL_cat, ofL_size, ofL_size, List.length_append, List.length_append, List.length_append]; simp only [List.length_cons, List.length_nil]; omega
    · rw [wadd k (by omega)]
      refine ⟨k + 1, rfl, hkl, x2.trans (x4.trans x8), ?_⟩
      rw [← ofL_cat, ← ofL_cat, List.take_add_one, List.getElem?_eq_getElem hkl, mtsL_app]
      congr 1
      simp [mtsL, List.append_assoc]
    · rw [wadd k (by omega)]
      simp only [Int.toNat_natCast]; omega
  · have hkl : k = s.length := by have := ge_of_dec hge; omega
    subst hkl
    rw [List.take_length]
    exact ⟨rfl, x2⟩
end Go.Proofs.YtfjcciaabkjkgaaGreatDoor
namespace Go.Proofs.YtfjcciaabkjkgaaGreatDoor
open Go Go.Shelf Go.Proofs
def Lay.quoteQ_ren : Go.Shelf.Ren := ⟨fun | 177 => 104 | 250 => 122 | 289 => 140 | 197 => 149 | 323 => 150 | 260 => 154 | 339 => 155 | 340 => 156 | 242 => 157 | 119 => 158 | 345 => 159 | 346 => 160 | 278 => 161 | n => n, fun | 9 => 9 | 5 => 5 | 4 => 4 | 3 => 3 | 37 => 169 | 21 => 21 | 105 => 180 | 46 => 88 | 119 => 188 | 0 => 0 | 139 => 191 | 138 => 190 | 49 => 192 | 234 => 193 | 131 => 121 | 51 => 67 | 236 => 90 | n => n, fun | 3 => 3 | 4 => 4 | 20 => 5 | 21 => 6 | 22 => 7 | 23 => 8 | 24 => 9 | n => n⟩
theorem Lay.quoteQ : Go.Proofs.Lays.n177 Tryz.prog Lay.quoteQ_ren := {
  mixed := by kernel_rfl,
  f119 := Tryz.func158.trans (congrArg some (by kernel_rfl)),
  f177 := Tryz.func104.trans (congrArg some (by kernel_rfl)),
  f197 := Tryz.func149.trans (congrArg some (by kernel_rfl)),
  f242 := Tryz.func157.trans (congrArg some (by kernel_rfl)),
  f250 := Tryz.func122.trans (congrArg some (by kernel_rfl)),
  f260 := Tryz.func154.trans (congrArg some (by kernel_rfl)),
  f278 := Tryz.func161.trans (congrArg some (by kernel_rfl)),
  f289 := Tryz.func140.trans (congrArg some (by kernel_rfl)),
  f323 := Tryz.func150.trans (congrArg some (by kernel_rfl)),
  f339 := Tryz.func155.trans (congrArg some (by kernel_rfl)),
  f340 := Tryz.func156.trans (congrArg some (by kernel_rfl)),
  f345 := Tryz.func159.trans (congrArg some (by kernel_rfl)),
  f346 := Tryz.func160.trans (congrArg some (by kernel_rfl)),
  t0 := Tryz.underlying0,
  a0 := Tryz.isAgg0,
  z0 := Tryz.sizeOf0,
  v0 := Tryz.zeroValue0,
  t3 := Tryz.underlying3,
  a3 := Tryz.isAgg3,
  z3 := Tryz.sizeOf3,
  v3 := Tryz.zeroValue3,
  t4 := Tryz.underlying4,
  a4 := Tryz.isAgg4,
  z4 := Tryz.sizeOf4,
  v4 := Tryz.zeroValue4,
  t5 := Tryz.underlying5,
  a5 := Tryz.isAgg5,
  z5 := Tryz.sizeOf5,
  v5 := Tryz.zeroValue5,
  t9 := Tryz.underlying9,
  a9 := Tryz.isAgg9,
  z9 := Tryz.sizeOf9,
  v9 := Tryz.zeroValue9,
  t21 := Tryz.underlying21,
  a21 := Tryz.isAgg21,
  z21 := Tryz.sizeOf21,
  v21 := Tryz.zeroValue21,
  t37 := Tryz.underlying169,
  a37 := Tryz.isAgg169,
  z37 := Tryz.sizeOf169,
  v37 := Tryz.zeroValue169,
  t46 := Tryz.underlying88,
  a46 := Tryz.isAgg88,
  z46 := Tryz.sizeOf88,
  v46 := Tryz.zeroValue88,
  t49 := Tryz.underlying192,
  a49 := Tryz.isAgg192,
  z49 := Tryz.sizeOf192,
  v49 := Tryz.zeroValue192,
  t51 := Tryz.underlying67,
  a51 := Tryz.isAgg67,
  z51 := Tryz.sizeOf67,
  v51 := Tryz.zeroValue67,
  t105 := Tryz.underlying180,
  a105 := Tryz.isAgg180,
  z105 := Tryz.sizeOf180,
  v105 := Tryz.zeroValue180,
  t119 := Tryz.underlying188,
  a119 := Tryz.isAgg188,
  z119 := Tryz.sizeOf188,
  t131 := Tryz.underlying121,
  a131 := Tryz.isAgg121,
  z131 := Tryz.sizeOf121,
  v131 := Tryz.zeroValue121,
  t138 := Tryz.underlying190,
  a138 := Tryz.isAgg190,
  z138 := Tryz.sizeOf190,
  v138 := Tryz.zeroValue190,
  t139 := Tryz.underlying191,
  a139 := Tryz.isAgg191,
  z139 := Tryz.sizeOf191,
  v139 := Tryz.zeroValue191,
  t234 := Tryz.underlying193,
  a234 := Tryz.isAgg193,
  z234 := Tryz.sizeOf193,
  v234 := Tryz.zeroValue193,
  t236 := Tryz.underlying90,
  a236 := Tryz.isAgg90,
  z236 := Tryz.sizeOf90,
  v236 := Tryz.zeroValue90,
  g3 := by kernel_rfl,
  g4 := by kernel_rfl,
  g20 := by kernel_rfl,
  g21 := by kernel_rfl,
  g22 := by kernel_rfl,
  g23 := by kernel_rfl,
  g24 := by kernel_rfl }
end Go.Proofs.YtfjcciaabkjkgaaGreatDoor
namespace Go.Proofs.YtfjcciaabkjkgaaGreatDoor
open Go Ml Go.Shelf Go.Lib Go.RowKit
def TabsW (T : PrintTabs) (w : World) : Prop := PrintTabsAt (Lay.quoteQ_ren.g 20) (Lay.quoteQ_ren.g 21) (Lay.quoteQ_ren.g 22) (Lay.quoteQ_ren.g 23) T w ∧ Utf8Tabs (Lay.quoteQ_ren.g 3) (Lay.quoteQ_ren.g 4) w
def TabsH (T : PrintTabs) (h0 h : Heap) : Prop := (∀ w : World, w.heap = h0 → TabsW T w) ∧ Fr (fun b => h0.size ≤ b) h0 h
theorem tabsW_heap {T : PrintTabs} {w w' : World} (e : w'.heap = w.heap) (h : TabsW T w) : TabsW T w' := by
  obtain ⟨h1, t1, d1, o1, u1⟩ := w
  obtain ⟨h2, t2, d2, o2, u2⟩ := w'
  simp only at e
  subst e
  exact h
theorem TabsH.at {T : PrintTabs} {h0 h : Heap} (t : TabsH T h0 h) (w : World) (e : w.heap = h) : TabsW T w := by
  subst e
  obtain ⟨a, b⟩ := t.1 { w with heap := h0 } rfl
  have hb : Below h0.size { w with heap := h0 } w := ⟨rfl, rfl, rfl, t.2.size, fun k hk => t.2.block k hk (by omega)⟩
  exact ⟨printTabs_below a hb, Utf8Tabs_below b hb⟩
theorem TabsH.refl {T : PrintTabs} {w : World} (t : TabsW T w) : TabsH T w.heap w.heap := ⟨fun _ e => tabsW_heap e t, Fr.refl _ _⟩
theorem quote_c {T : PrintTabs} {h0 h : Heap} (t : TabsH T h0 h) (x : ByteArray) (hx : x.size ≤ 1048576) : HC Tryz.prog 104 #[.string x] h fun v h' => v = .string (ofL (quoteZ T x)) ∧ Ext h h' := by
  intro w hw
  obtain ⟨a, b⟩ := t.at w hw
  refine (Any.strconv_Quote Lay.quoteQ (by kernel_rfl) T x w (by omega) a b).mono ?_
  rintro e w' ⟨rfl, hb⟩
  have he : Ext w.heap w'.heap := ⟨hb.size, fun b hb' => hb.block b hb'⟩
  exact ⟨_, rfl, ⟨hb.os, hb.tape, hb.output, hb.size, fun b hb' => he.row hb'⟩, rfl, by rw [← hw]; exact he⟩
namespace Ml
def PmL (l : List Mv) (s : List Mt) : Prop := Srt s ∧ ∀ x ∈ s, x ∈ nil :: l.map fun m => (⟨true, m.val⟩ : Mt)
theorem outs_of {m : Mv} {w x : Mt} (h : x ∈ outs m w) : x = w ∨ x = nil ∨ x = ⟨true, m.val⟩ := by
  unfold outs at h
  repeat' (split at h)
  all_goals (try unfold putF at h) <;> (try unfold delF at h)
  all_goals repeat' (split at h)
  all_goals simp at h
  all_goals (try rcases h with h | h | h) <;> (try rcases h with h | h) <;> simp_all
theorem pmL_next {l : List Mv} {s : List Mt} (h : PmL l s) {m : Mv} (hm : m ∈ l) : PmL l (next s m) := ⟨next_srt _ _, fun x hx => by
  obtain ⟨w, hw, ho⟩ := (next_mem s m x).1 hx
  rcases outs_of ho with rfl | rfl | rfl
  · exact h.2 _ hw
  · exact List.mem_cons_self
  · exact List.mem_cons_of_mem _ (List.mem_map.2 ⟨m, hm, rfl⟩)⟩
theorem pmL_start {l : List Mv} : PmL l start := ⟨start_srt, fun x hx => by
  have : x = nil := by simpa [start] using hx
  rw [this]; exact List.mem_cons_self⟩
theorem pmL_len {l : List Mv} {s : List Mt} (h : PmL l s) : s.length ≤ l.length + 1 := by
  have := nodup_len h.1.nodup h.2
  simpa using this
end Ml
theorem nmr_c {T : PrintTabs} {h0 : Heap} {N : Nat} (hN : h0.size ≤ N) {l : List Mv} (hl : l.length ≤ 524288) (hv : ∀ m ∈ l, m.val.size ≤ 1048576) : Nmr N (TabsH T h0) (PmL l) (fun left s => ofL (nameL T left s)) l where
  fr := fun f hS t => ⟨t.1, t.2.trans f fun i _ q => by have := hS i q; show h0.size ≤ i; omega⟩
  pn := fun s i h hi => pmL_next h (by rw [mv_at hi]; exact List.getElem_mem hi)
  pl := fun s h => by have := pmL_len h; omega
  ps := pmL_start
  inj := fun {a b s t} ha hb e => nameL_inj T ha hb (by rw [← toL_ofL (nameL_byte T a s), ← toL_ofL (nameL_byte T b t)]; exact congrArg toL e)
  st := fun {h left s a c} t h32 P sl => state_c T (fun x t => ⟨t.1, t.2.trans (x.fr fun _ => False) fun _ _ q => q.elim⟩) (fun x t hx => quote_c t x hx) t h32 (fun x hx => by
    have := P.2 x hx
    rcases List.mem_cons.1 this with rfl | this
    · decide
    · obtain ⟨m, hm, rfl⟩ := List.mem_map.1 this
      exact hv m hm) (by have := pmL_len P; omega) sl
  ll := by omega
theorem least_t {T : PrintTabs} {h0 : Heap} {l : List Mv} (hl : l.length ≤ 524288) (hv : ∀ m ∈ l, m.val.size ≤ 1048576) : LeastC (TabsH T h0) l :=
  least_c fun _ t => nmr_c t.2.size hl hv
theorem tabs_ext {T : PrintTabs} {h0 h h' : Heap} (x : Ext h h') (t : TabsH T h0 h) : TabsH T h0 h' := ⟨t.1, t.2.trans (x.fr fun _ => False) fun _ _ q => q.elim⟩
theorem lives_t {T : PrintTabs} {h0 h : Heap} (t : TabsH T h0 h) : HC Tryz.prog 8 #[] h fun v h' => v = .bool true ∧ Ext h h' :=
  lives_of (Tb1 := TabsH T h0) (Tb2 := TabsH T h0) tabs_ext tabs_ext (least_t (by decide) fun m hm => by simp at hm; rcases hm with rfl | rfl <;> decide) (least_t (by decide) fun m hm => by simp at hm; rcases hm with rfl | rfl <;> decide) t t
end Go.Proofs.YtfjcciaabkjkgaaGreatDoor
namespace Go.Proofs.YtfjcciaabkjkgaaGreatDoor
open Go Ml Go.ChangeShapes Go.WideShapes Go.Deep Go.Lib
def dMv {H : Type} (y : Mv) : DataW H := .agg [.lit (.int .i64 y.kind), .lit (.string y.key.data.toList), .lit (.string y.val.data.toList), .lit (.int .i64 y.err), .lit (.bool y.hit), .lit (.int .i64 y.life), .lit (.int .i64 y.fr), .lit (.int .i64 y.to)]
def wfMv (y : Mv) : Prop := (Lit.int .i64 y.kind).wf = true ∧ y.key.size ≤ maxLen ∧ y.val.size ≤ maxLen ∧ (Lit.int .i64 y.err).wf = true ∧ (Lit.int .i64 y.life).wf = true ∧ (Lit.int .i64 y.fr).wf = true ∧ (Lit.int .i64 y.to).wf = true ∧ True
set_option maxRecDepth 100000 in
theorem oMv {H : Type} {enc : TypeId × Value → H} {W : World} (fuel : Nat) (cs : List Value) (x : DataW H × List MemPlace) (h : DataW.trod enc Tryz.prog W 0 (fun _ => true) true fuel 40 cs = some x) :
    ∃ y : Mv, cs = eMv.enc y ∧ (x.1 = dMv y ∧ wfMv y) := by
  obtain ⟨ys, n, _, hx, hl, hyl, hf⟩ := DataW.trod_struct Tryz.underlying40 h
  rw [show Tryz.prog.cellsOf 40 = 8 by kernel_rfl] at hl
  match cs, hl with
  | [c0, c1, c2, c3, c4, c5, c6, c7], _ =>
    have g0 : DataW.trod enc Tryz.prog W 0 (fun _ => true) true n 3 (([c0, c1, c2, c3, c4, c5, c6, c7].drop 0).take (Tryz.prog.cellsOf 3)) = ys[0]? := hf 0 _ rfl
    rw [show Tryz.prog.cellsOf 3 = 1 by kernel_rfl] at g0
    have g1 : DataW.trod enc Tryz.prog W 0 (fun _ => true) true n 9 (([c0, c1, c2, c3, c4, c5, c6, c7].drop 1).take (Tryz.prog.cellsOf 9)) = ys[1]? := hf 1 _ rfl
    rw [show Tryz.prog.cellsOf 9 = 1 by kernel_rfl] at g1
    have g2 : DataW.trod enc Tryz.prog W 0 (fun _ => true) true n 9 (([c0, c1, c2, c3, c4, c5, c6, c7].drop 2).take (Tryz.prog.cellsOf 9)) = ys[2]? := hf 2 _ rfl
    rw [show Tryz.prog.cellsOf 9 = 1 by kernel_rfl] at g2
    have g3 : DataW.trod enc Tryz.prog W 0 (fun _ => true) true n 27 (([c0, c1, c2, c3, c4, c5, c6, c7].drop 3).take (Tryz.prog.cellsOf 27)) = ys[3]? := hf 3 _ rfl
    rw [show Tryz.prog.cellsOf 27 = 1 by kernel_rfl] at g3
    have g4 : DataW.trod enc Tryz.prog W 0 (fun _ => true) true n 4 (([c0, c1, c2, c3, c4, c5, c6, c7].drop 4).take (Tryz.prog.cellsOf 4)) = ys[4]? := hf 4 _ rfl
    rw [show Tryz.prog.cellsOf 4 = 1 by kernel_rfl] at g4
    have g5 : DataW.trod enc Tryz.prog W 0 (fun _ => true) true n 3 (([c0, c1, c2, c3, c4, c5, c6, c7].drop 5).take (Tryz.prog.cellsOf 3)) = ys[5]? := hf 5 _ rfl
    rw [show Tryz.prog.cellsOf 3 = 1 by kernel_rfl] at g5
    have g6 : DataW.trod enc Tryz.prog W 0 (fun _ => true) true n 3 (([c0, c1, c2, c3, c4, c5, c6, c7].drop 6).take (Tryz.prog.cellsOf 3)) = ys[6]? := hf 6 _ rfl
    rw [show Tryz.prog.cellsOf 3 = 1 by kernel_rfl] at g6
    have g7 : DataW.trod enc Tryz.prog W 0 (fun _ => true) true n 3 (([c0, c1, c2, c3, c4, c5, c6, c7].drop 7).take (Tryz.prog.cellsOf 3)) = ys[7]? := hf 7 _ rfl
    rw [show Tryz.prog.cellsOf 3 = 1 by kernel_rfl] at g7
    match ys, hyl with
    | [y0, y1, y2, y3, y4, y5, y6, y7], _ =>
      obtain ⟨n0, e0, x0, w0⟩ := DataW.trod_int Tryz.underlying3 (x := y0) g0
      obtain ⟨n1, e1, x1, w1⟩ := DataW.trod_string Tryz.underlying9 (x := y1) g1
      obtain ⟨n2, e2, x2, w2⟩ := DataW.trod_string Tryz.underlying9 (x := y2) g2
      obtain ⟨n3, e3, x3, w3⟩ := DataW.trod_int Tryz.underlying27 (x := y3) g3
      obtain ⟨n4, e4, x4⟩ := DataW.trod_bool Tryz.underlying4 (x := y4) g4
      obtain ⟨n5, e5, x5, w5⟩ := DataW.trod_int Tryz.underlying3 (x := y5) g5
      obtain ⟨n6, e6, x6, w6⟩ := DataW.trod_int Tryz.underlying3 (x := y6) g6
      obtain ⟨n7, e7, x7, w7⟩ := DataW.trod_int Tryz.underlying3 (x := y7) g7
      refine ⟨⟨n0, n1, n2, n3, n4, n5, n6, n7⟩, ?_, ?_, ⟨w0, w1, w2, w3, w5, w6, w7, trivial⟩⟩
      · show (([c0, c1, c2, c3, c4, c5, c6, c7].drop 0).take 1) ++ (([c0, c1, c2, c3, c4, c5, c6, c7].drop 1).take 1) ++ (([c0, c1, c2, c3, c4, c5, c6, c7].drop 2).take 1) ++ (([c0, c1, c2, c3, c4, c5, c6, c7].drop 3).take 1) ++ (([c0, c1, c2, c3, c4, c5, c6, c7].drop 4).take 1) ++ (([c0, c1, c2, c3, c4, c5, c6, c7].drop 5).take 1) ++ (([c0, c1, c2, c3, c4, c5, c6, c7].drop 6).take 1) ++ (([c0, c1, c2, c3, c4, c5, c6, c7].drop 7).take 1) = _
        rw [e0, e1, e2, e3, e4, e5, e6, e7]
        rfl
      · rw [hx]
        simp only [List.map_cons, List.map_nil, x0, x1, x2, x3, x4, x5, x6, x7]
        rfl
section
variable {H : Type} {enc : TypeId × Value → H} {W : World}
theorem bulk_in : ∀ {l : List (DataW H)} {d : DataW H}, d ∈ l → Rows.uptoBulk d ≤ Rows.uptoBulkAll l
  | x :: l, d, h => by
    simp only [Rows.uptoBulkAll]
    rcases List.mem_cons.1 h with rfl | h
    · omega
    · have := bulk_in h; omega
theorem bulk_all {n : Nat} : ∀ {l : List (DataW H)}, (∀ d ∈ l, n ≤ Rows.uptoBulk d) → n * l.length ≤ Rows.uptoBulkAll l
  | [], _ => by simp
  | x :: l, h => by
    have h1 := h x List.mem_cons_self
    have h2 := bulk_all (l := l) fun d hd => h d (List.mem_cons_of_mem _ hd)
    simp only [Rows.uptoBulkAll, List.length_cons, Nat.mul_succ]
    omega
theorem bulk_mv (y : Mv) : Rows.uptoBulk (dMv (H := H) y) = y.key.size + y.val.size + 9 := by
  unfold dMv
  have h1 : y.key.data.toList.length = y.key.size := by rw [Array.length_toList]; rfl
  have h2 : y.val.data.toList.length = y.val.size := by rw [Array.length_toList]; rfl
  simp only [Rows.uptoBulk, Rows.uptoBulkAll, h1, h2]
  omega
theorem mvs_of {a : Option Addr} {len cap : Nat} {d : DataW H} {p : List MemPlace} (h : DataW.Trod enc Tryz.prog W 0 (fun _ => true) true 22 (.slice a len cap) d p) (hk : Rows.uptoBulk d ≤ 1048576) :
    ∃ L : List Mv, L.length = len ∧ Sl eMv W.heap a cap L ∧ L.length ≤ 116508 ∧ ∀ m ∈ L, m.key.size + m.val.size ≤ 1048576 := by
  obtain ⟨_, _, L, hl, s, g⟩ := open_listT eMv Tryz.underlying22 (by kernel_rfl) (by decide) (fun y d => d = dMv y ∧ wfMv y) oMv h
  refine ⟨L, hl, s, ?_⟩
  rcases g with e | ⟨es, sp, e, hes, hg⟩
  · refine ⟨by omega, fun m hm => ?_⟩
    have := List.length_pos_of_mem hm
    omega
  · have key : ∀ i (hi : i < L.length), ∃ z ∈ es, z = dMv (H := H) L[i] := fun i hi =>
      ⟨es[i]'(by omega), List.getElem_mem _, (hg i L[i] es[i] (List.getElem?_eq_getElem hi) (List.getElem?_eq_getElem (by omega))).1⟩
    rw [e] at hk
    simp only [Rows.uptoBulk] at hk
    have h9 : 9 * es.length ≤ Rows.uptoBulkAll es := bulk_all fun z hz => by
      obtain ⟨i, hi, rfl⟩ := List.getElem_of_mem hz
      have := (hg i (L[i]'(by omega)) es[i] (List.getElem?_eq_getElem (by omega)) (List.getElem?_eq_getElem hi)).1
      rw [this, bulk_mv]; omega
    refine ⟨by omega, fun m hm => ?_⟩
    obtain ⟨i, hi, rfl⟩ := List.getElem_of_mem hm
    obtain ⟨z, hz, e2⟩ := key i hi
    have := bulk_in hz
    rw [e2, bulk_mv] at this
    omega
end
theorem tabs16 : Go.Pinned.isPrint16 = sliceData .u16 goPrintTabs.p16 := by kernel_rfl
theorem tabsN16 : Go.Pinned.isNotPrint16 = sliceData .u16 goPrintTabs.n16 := by kernel_rfl
theorem tabs32 : Go.Pinned.isPrint32 = sliceData .u32 goPrintTabs.p32 := by kernel_rfl
theorem tabsN32 : Go.Pinned.isNotPrint32 = sliceData .u16 goPrintTabs.n32 := by kernel_rfl
theorem tabsF : Go.Pinned.utf8First = firstData := by kernel_rfl
theorem tabsA : (Rows.laid_unicode_utf8_acceptRanges : DataW Unit) = acceptData := by kernel_rfl
theorem tabs_of {W : World} {l : List (String × DataW Unit)} (h : laidMet Tryz.prog l W) (m1 : ("strconv.isPrint16", Go.Pinned.isPrint16) ∈ l) (m2 : ("strconv.isNotPrint16", Go.Pinned.isNotPrint16) ∈ l) (m3 : ("strconv.isPrint32", Go.Pinned.isPrint32) ∈ l) (m4 : ("strconv.isNotPrint32", Go.Pinned.isNotPrint32) ∈ l)
    (m5 : ("unicode/utf8.first", Go.Pinned.utf8First) ∈ l) (m6 : ("unicode/utf8.acceptRanges", Rows.laid_unicode_utf8_acceptRanges) ∈ l) : TabsW goPrintTabs W := by
  rw [tabs16] at m1
  rw [tabsN16] at m2
  rw [tabs32] at m3
  rw [tabsN32] at m4
  rw [tabsF] at m5
  rw [tabsA] at m6
  exact ⟨printTabs_of_reads (ρ := Lay.quoteQ_ren) { Lay.quoteQ with } ⟨by kernel_rfl, by kernel_rfl, by kernel_rfl, by kernel_rfl, by kernel_rfl, by kernel_rfl, by kernel_rfl, by kernel_rfl, by kernel_rfl, by kernel_rfl⟩ (laidMet.reads h m1) (laidMet.reads h m2) (laidMet.reads h m3) (laidMet.reads h m4),
    utf8Tabs_of_reads (ρ := Lay.quoteQ_ren) { Lay.quoteQ with } ⟨by kernel_rfl, by kernel_rfl, by kernel_rfl, by kernel_rfl, by kernel_rfl, by kernel_rfl, by kernel_rfl⟩ (laidMet.reads h m5) (laidMet.reads h m6)⟩
end Go.Proofs.YtfjcciaabkjkgaaGreatDoor
