import Derived.Test.YthjehlocmikchaaDoorDvSU
import Derived.Test.YthjehlocmikchaaDoorDvCel
namespace Go.Proofs.YthjehlocmikchaaDoor
namespace Sc
open Go
theorem cbF : CallB Tryd.prog 64 := fun _ _ => Tryd.call64 _ _
def Yt (T : Nat → Prop) (h h3 : Heap) (b : Nat) : Prop := (b < h.size ∧ T b) ∨ h3.size ≤ b
section
variable {h : Heap} {a : Option Addr} {c : Nat} {L : List Int}
abbrev rowG (g : Geo) : Array Value := #[.int .i64 g.page, .int .i64 g.pages, .int .i64 g.regs, .int .i64 g.al]
theorem G4 {hh : Heap} {gb : Nat} {g : Geo} {Tg : TypeId} {fr : Nat × Nat} (r : hh[gb]? = some (.cells (rowG g) Tg fr)) : hcell hh gb 0 = some (.int .i64 g.page) ∧ hcell hh gb (0 + 1) = some (.int .i64 g.pages) ∧ hcell hh gb (0 + 2) = some (.int .i64 g.regs) ∧ hcell hh gb (0 + 3) = some (.int .i64 g.al) :=
 ⟨by rw [hcell_row r]; rfl, by rw [hcell_row r]; rfl, by rw [hcell_row r]; rfl, by rw [hcell_row r]; rfl⟩
theorem drop_nil_len {α : Type} {A : List α} {k : Nat} (hk : k ≤ A.length) (e : A.drop k = []) : k = A.length := by
 have := congrArg List.length e
 simp at this; omega
set_option maxHeartbeats 3200000 in
theorem found_go {gb ib eb pb po : Nat} {Tg Ti Te : TypeId} {fg fi fe : Nat × Nat} {y : Value} {R : Value → Heap → Prop} (g : Geo) (T : Nat → Prop) (t : Tab h) (ft : fits g L) (s : Sl eB h a c L) (hb : isB L)
  (rg : h[gb]? = some (.cells (rowG g) Tg fg)) (ri : h[ib]? = some (.cells #[.slice a L.length c] Ti fi)) (re : h[eb]? = some (.cells #[ptr pb po] Te fe))
  (tg : ¬ T gb) (ti : ¬ T ib) (te : ¬ T eb) (ta : ∀ b, blkA a b → ¬ T b) (hp : pb < h.size)
  (hno : headD g L = none → ∀ h3, Ext h h3 → HWs h3 pb po 2 ∧ R (.tuple #[]) (hsets h3 pb po [.int .i64 0, .int .i64 1]))
  (hso : ∀ x, headD g L = some x → ∀ h3, Ext h h3 → ∃ J : Nat → Heap → Prop, J 0 h3 ∧ (∀ k h4 h5, J k h4 → Ext h4 h5 → J k h5) ∧
   (∀ k (hk : k < (recsOf g x x.rg L).1.length) h4, Fr (Yt T h h3) h3 h4 → J k h4 → HCV Tryd.prog y [.agg (recsOf g x x.rg L).1[k].cs.toArray] h4 fun vv h7 => Fr (Yt T h h3) h4 h7 ∧ ∃ b : Bool, vv = .bool b ∧ (b = false → R (.tuple #[]) h7) ∧ (b = true → J (k + 1) h7)) ∧
   (∀ h4, Fr (Yt T h h3) h3 h4 → J (recsOf g x x.rg L).1.length h4 → HWs h4 pb po 2 ∧ R (.tuple #[]) (hsets h4 pb po [.int .i64 (recsOf g x x.rg L).2.1, .int .i64 (recsOf g x x.rg L).2.2]))) :
  HCF Tryd.prog (.func (.func 64) #[] #[ptr gb 0, ptr ib 0, ptr eb 0]) [y] h R := by
 refine ⟨64, [], [ptr gb 0, ptr ib 0, ptr eb 0], rfl, cbF, ?_⟩
 have hg := ft.1
 have hL := ft.2
 have b := ok_bounds hg
 have fb := fst_bounds hg
 have hl : L.length ≤ 1099511627776 := by omega
 have hc := s.le
 obtain ⟨q1, q2, q3, q4⟩ := G4 rg
 refine f64_sh _ _ _ _ _ _ _ _ _ ⟨_, _, _, _, q1, q2, q3, q4, _, _, _, by rw [hcell_row ri]; rfl, (head_m g t s hb).mono ?_⟩
 rintro _ h1 ⟨rfl, x1⟩
 unfold tellD
 have glt := row_lt rg
 have ilt := row_lt ri
 have elt := row_lt re
 cases hx : headD g L with
 | none =>
  simp only [if_pos hg]
  refine ⟨x1, _, _, _, _, rfl, fun _ => ⟨_, by rw [hcell_row (x1.row re)]; rfl, pb, po, rfl, fun hv h3 lo _ x3 => ?_⟩, fun e => by simp at e⟩
  obtain ⟨u1, u2⟩ := hno hx h3 (x1.trans x3)
  have := x1.size
  exact ⟨u1, fun q hq => by simp only [List.mem_cons, List.not_mem_nil, or_false] at hq; omega, fun h4 e4 => by rw [e4]; exact u2⟩
 | some x =>
  obtain ⟨_, h32, rfl⟩ := headD_some hx
  refine ⟨x1, _, _, _, _, rfl, fun e => by simp at e, fun _ hv h3 hlo hlt x3 => ?_⟩
  have x13 := x1.trans x3
  obtain ⟨J, j0, jx, jy, je⟩ := hso _ hx h3 x13
  have hsq : 0 ≤ (hdOf L).sq ∧ (hdOf L).sq < 18446744073709551616 := le_u64 (isB_take (isB_drop hb 16) 8) (by simp; omega)
  unfold recsOf at jy je
  generalize hsalt : (hdOf L).sq % 4294967296 = salt at *
  have hs : U32 salt := by rw [← hsalt]; exact ⟨by omega, by omega⟩
  obtain ⟨r1, r2, r3, r4⟩ := G4 (x13.row rg)
  refine ⟨salt, (salt_m _ hsq h3).mono fun v h' q => by rw [← hsalt]; exact q, _, _, _, _, r1, r2, r3, r4, (Up_m g 32 h3).mono ?_⟩
  rintro _ h5 ⟨rfl, x5⟩
  rw [upE_32 hg]
  generalize hrec : goOn g salt (hdOf L).rg L L.length (fst0 g) = rs at *
  have hz1 := x1.size
  have hz3 := x3.size
  have ng : ¬ Yt T h h3 gb := fun q => by rcases q with q | q; exact tg q.2; omega
  have ni : ¬ Yt T h h3 ib := fun q => by rcases q with q | q; exact ti q.2; omega
  have ne : ¬ Yt T h h3 eb := fun q => by rcases q with q | q; exact te q.2; omega
  have nv : ¬ Yt T h h3 hv := fun q => by rcases q with q | q <;> omega
  refine ⟨x5, _, _, rfl, fun p h6 => ∃ (k n : Nat), k ≤ rs.1.length ∧ (rs.1.drop k, rs.2) = goOn g salt (hdOf L).rg L n p ∧ 32 ≤ p ∧ p ≤ L.length + 4096 ∧ (L.length : Int) ≤ n + p ∧ J k h6 ∧ Fr (Yt T h h3) h3 h6, fun p _ => (L.length + 8192 - p).toNat,
   ⟨0, L.length, Nat.zero_le _, by rw [List.drop_zero, hrec], by omega, by omega, by omega, jx 0 h3 h5 j0 x5, x5.fr _⟩, ?_⟩
  rintro p h6 ⟨k, n, hk, hgo, p0, p1, pn, jk, f6⟩
  have g6 := f6.row (x13.row rg) ng
  have i6 := f6.row (x13.row ri) ni
  have e6 := f6.row (x13.row re) ne
  have sfr : ∀ {hh : Heap}, Fr (Yt T h h3) h3 hh → Sl eB hh a c L := fun f => (s.ext x13).fr f fun b hb q => by
   have hlt' : b < h.size ∨ c = 0 := by
    rcases s.ex with e | ⟨b', o', e, hcs⟩
    ·exact .inr e
    ·obtain ⟨x', ex, rfl⟩ := hb
     rw [e] at ex; cases ex
     left
     have h0 : 0 < L.length := by omega
     have := hcs 0 _ (List.getElem?_eq_getElem h0)
     exact hcell_lt (this.get (j := 0) rfl)
   rcases q with q | q
   ·exact ta b hb q.2
   ·omega
  have s6 := sfr f6
  have ew : IntKind.i64.wrap (IntKind.i64.wrap (p + 24) + 24) = p + 48 := by rw [w64 (x := p + 24) (by omega) (by omega), w64 (by omega) (by omega)]; omega
  simp only [ew]
  have offp : ∀ {hh : Heap}, Ext h6 hh → ∀ q, hh.size ≤ q → pb ≠ q := fun xx q hq => by have := f6.size; have := xx.size; omega
  have fin : ∀ {hh : Heap} {q w : Int}, Ext h6 hh → goOn g salt (hdOf L).rg L n p = ([], q, w) → HWs hh pb po 2 ∧ R (.tuple #[]) (hsets hh pb po [.int .i64 q, .int .i64 w]) := fun {hh q w} xx h1 => by
   rw [h1] at hgo
   have e1 := congrArg Prod.fst hgo
   have e2 := congrArg Prod.snd hgo
   simp only at e1 e2
   have hk2 := drop_nil_len hk e1
   have := je hh (f6.trans (xx.fr (Yt T h h3)) fun _ _ q => q) (by rw [← hk2]; exact jx _ _ _ jk xx)
   rw [e2] at this; exact this
  refine ⟨_, _, _, by rw [hcell_row i6]; rfl, fun e => ?_, fun e => ?_⟩
  ·have hp48 := of_decide_eq_true e
   have hpl : p.toNat < L.length := by omega
   obtain ⟨n', rfl⟩ : ∃ n', n = n' + 1 := ⟨n - 1, by omega⟩
   obtain ⟨bb, o, ea, d⟩ := s6.at (List.getElem?_eq_getElem hpl)
   have hgd := getD_at hpl
   have hfar : ¬ p > L.length - 48 := by omega
   refine ⟨bb, o, ea, by omega, by omega, L[p.toNat], d.1, fun e2 => ?_, fun e2 => ⟨fun e3 => ?_, fun e3 => ?_⟩⟩
   ·have e0 : L.getD p.toNat 0 = 0 := by rw [hgd]; exact eq_of_beq e2
    have m1 := Int.emod_add_mul_ediv p g.page
    have m2 := Int.emod_nonneg p (show g.page ≠ 0 by omega)
    have m3 := Int.emod_lt_of_pos p (show 0 < g.page by omega)
    have d0 : 0 ≤ p / g.page := Int.ediv_nonneg (by omega) (by omega)
    have d1 : p / g.page ≤ p := Int.ediv_le_self _ (by omega)
    have e5 : (p / g.page + 1) * g.page = g.page * (p / g.page) + g.page := by rw [Int.add_mul, Int.one_mul, Int.mul_comm]
    have e7 : goOn g salt (hdOf L).rg L (n' + 1) p = goOn g salt (hdOf L).rg L n' ((p / g.page + 1) * g.page) := by rw [goOn, if_neg hfar, if_pos e0]
    refine ⟨g.page, (G4 g6).1, by omega, ?_⟩
    rw [Int.tdiv_eq_ediv_of_nonneg (by omega), w64 (x := p / g.page) (by omega) (by omega), w64 (x := p / g.page + 1) (by omega) (by omega), w64 (x := (p / g.page + 1) * g.page) (by omega) (by omega)]
    refine ⟨⟨k, n', hk, by rw [hgo, e7], by omega, by omega, by omega, jk, f6⟩, ?_⟩
    show ((L.length : Int) + 8192 - (p / g.page + 1) * g.page).toNat < ((L.length : Int) + 8192 - p).toNat
    omega
   ·have h0 : ¬ L.getD p.toNat 0 = 0 := by rw [hgd]; simpa using e2
    have h255 : L.getD p.toNat 0 = 255 := by rw [hgd]; simpa using e3
    obtain ⟨u1, u2⟩ := fin (q := p) (w := 2) (Ext.refl _) (by rw [goOn, if_neg hfar, if_neg h0, if_pos h255])
    exact ⟨_, by rw [hcell_row e6]; rfl, pb, po, rfl, u1, fun q hq => by simp only [List.mem_cons, List.not_mem_nil, or_false] at hq; omega, fun h7 e7 => by rw [e7]; exact u2⟩
   ·have h0 : ¬ L.getD p.toNat 0 = 0 := by rw [hgd]; simpa using e2
    have h255 : ¬ L.getD p.toNat 0 = 255 := by rw [hgd]; simpa using e3
    have edec : decV g salt L p = if recOk g salt (L.drop p.toNat) then .tuple #[(rcOf (L.drop p.toNat)).v, .int .i64 (szR (L.drop p.toNat)), .int .i64 0] else .tuple #[z4.v, .int .i64 0, .int .i64 52] := by
     unfold decV; rw [if_neg (not_not_intro hg), if_neg (by omega), if_neg (by omega)]
    obtain ⟨k1, k2, k3, k4⟩ := G4 g6
    rw [ea] at s6
    refine ⟨_, _, _, _, k1, k2, k3, k4, (decode_m g hs s6 hb hl p).mono ?_⟩
    rintro _ h8 ⟨rfl, x8⟩
    rw [edec]
    by_cases hok : recOk g salt (L.drop p.toNat)
    ·rw [if_pos hok]
     have hz := hok.1.2
     have hz2 : (24 : Nat) ≤ szR (L.drop p.toNat) := by unfold szR; omega
     have hzl : (L.drop p.toNat).length = L.length - p.toNat := List.length_drop
     have e7 : goOn g salt (hdOf L).rg L (n' + 1) p = (⟨(hdOf L).rg, p, szR (L.drop p.toNat), rcOf (L.drop p.toNat)⟩ :: (goOn g salt (hdOf L).rg L n' (upTo (p + szR (L.drop p.toNat)) g.al)).1, (goOn g salt (hdOf L).rg L n' (upTo (p + szR (L.drop p.toNat)) g.al)).2) := by
      rw [goOn, if_neg hfar, if_neg h0, if_neg h255, if_pos hok]
     rw [e7] at hgo
     have e8 := congrArg Prod.fst hgo
     have e9 := congrArg Prod.snd hgo
     simp only at e8 e9
     have hkl : k < rs.1.length := by
      rcases Nat.lt_or_ge k rs.1.length with q | q
      ·exact q
      ·rw [List.drop_eq_nil_of_le q] at e8; cases e8
     rw [List.drop_eq_getElem_cons hkl] at e8
     have e10 := (List.cons.inj e8).1
     have e11 := (List.cons.inj e8).2
     refine ⟨x8, _, _, _, _, _, _, rfl, fun e => by simp at e, fun _ h10 x10 => ?_⟩
     have f10 : Fr (Yt T h h3) h3 h10 := f6.trans ((x8.trans x10).fr (Yt T h h3)) fun _ _ q => q
     have hy := jy k hkl h10 f10 (jx _ _ _ jk (x8.trans x10))
     rw [e10] at hy
     refine hy.mono ?_
     rintro _ h12 ⟨f12, bo, rfl, hf, ht⟩
     have fr12 : Fr (Yt T h h3) h3 h12 := f10.trans f12 fun _ _ q => q
     refine ⟨f12.kp fun q hq => ?_, bo, rfl, fun e => hf (by cases bo; rfl; simp at e), fun e => ?_⟩
     ·simp only [List.mem_cons, List.not_mem_nil, or_false] at hq; subst hq; exact nv
     ·obtain ⟨k1, k2, k3, k4⟩ := G4 (fr12.row (x13.row rg) ng)
      refine ⟨_, _, _, _, k1, k2, k3, k4, ?_⟩
      rw [w64 (x := p + (szR (L.drop p.toNat) : Int)) (by omega) (by omega)]
      refine (Up_m g _ h12).mono ?_
      rintro _ h13 ⟨rfl, x13'⟩
      have up := upTo_ge (n := p + (szR (L.drop p.toNat) : Int)) (al := g.al) (by omega)
      have eup : upE g (p + (szR (L.drop p.toNat) : Int)) = .tuple #[.int .i64 (upTo (p + (szR (L.drop p.toNat) : Int)) g.al), .int .i64 0] := by
       have hd : g.sz * 2 ≤ g.sz * g.regs := Int.mul_le_mul_of_nonneg_left hg.2.2.1.1 (by omega)
       unfold upE; rw [if_pos hg, if_neg (by omega)]
      refine ⟨x13', _, _, eup, ⟨k + 1, n', hkl, by rw [e11, e9], by omega, by omega, by omega, jx _ _ _ (ht (by cases bo; simp at e; rfl)) x13', fr12.trans (x13'.fr (Yt T h h3)) fun _ _ q => q⟩, ?_⟩
      show ((L.length : Int) + 8192 - _).toNat < ((L.length : Int) + 8192 - p).toNat
      omega
    ·rw [if_neg hok]
     refine ⟨x8, _, _, _, _, _, _, rfl, fun _ => ⟨_, by rw [hcell_row (x8.row e6)]; rfl, pb, po, rfl, fun r h10 lo10 lt10 x10 => ?_⟩, fun e => by simp at e⟩
     obtain ⟨u1, u2⟩ := fin (q := p) (w := 3) (x8.trans x10) (by rw [goOn, if_neg hfar, if_neg h0, if_neg h255, if_neg hok])
     exact ⟨u1, fun q hq => by
      simp only [List.mem_cons, List.not_mem_nil, or_false] at hq
      rcases hq with rfl | rfl
      ·omega
      ·exact Ne.symm (offp x8 _ lo10), fun h11 e11 => by rw [e11]; exact u2⟩
  ·have hfar : p > L.length - 48 := by have := of_decide_eq_false e; omega
   obtain ⟨u1, u2⟩ := fin (q := p) (w := 4) (Ext.refl _) (goOn_far hfar)
   exact ⟨_, by rw [hcell_row e6]; rfl, pb, po, rfl, u1, fun h7 e7 => by rw [e7]; exact u2⟩
end
end Sc
end Go.Proofs.YthjehlocmikchaaDoor
