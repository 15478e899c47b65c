/-
Load, of both.
-/
import Derived.Test.YtfdgjgjcppfmiaaGZ
namespace Go.Proofs.Ytfdgjgjcppfmiaa
namespace Mg
open Go

def Good (G : List Inf) (last : Int) : Prop := (2 ≤ G.length ∧ G.length ≤ 256) ∧ Ok last G G.length ∧ last ≤ 9223372036854775807
def isF (G : List Inf) (i : Int) : Bool := (gt G i.toNat).st == 1
def SL (G : List Inf) (last : Int) : Rg := ⟨G, (ints G.length).filter (isF G), last, -1, List.replicate G.length []⟩

section
variable {W : Nat → Prop} {h h' : Heap} {p : Nat} {S : Rg} {ra fa : Option Addr} {qc fc mb : Nat} {kv : List (Int × Value)} {Ds : List Dr}
/-- The regions are another list; it is written into its cell. -/
theorem Mem.setL (M : Mem W h p S ra fa qc fc mb kv Ds) {h1 : Heap} {a' : Option Addr} {c' n' : Nat} {I' : List Inf} (f1 : Fr (blkA ra) h h1) (s1 : Sl eInf h1 a' c' I') (w1 : Own eInf.k tI 0 h1 a' c') (hb : ∀ b, blkA a' b → blkA ra b ∨ h.size ≤ b) (hn : n' = I'.length) :
    HW h1 p 0 ∧ ∀ h', h' = hset h1 p 0 (.slice a' n' c') → Mem (grown W h h') h' p { S with I := I' } a' fa c' fc mb kv Ds ∧ Fr W h h' := by
  subst hn
  have r1 := f1.row M.row (own_ne M.oi M.row (by decide))
  have m1 := M.mp.fr f1 (own_map M.oi M.mp)
  refine ⟨HW_row r1 (by simp), fun h' e => ?_⟩
  have f2 := fr_hset_of e
  have f : Fr (fun b => blkA ra b ∨ b = p) h h' := (f1.mono fun _ _ s => .inl s).trans f2 fun _ _ s => .inr s
  have r2 : h'[p]? = some (.cells #[.slice a' I'.length c', .slice fa S.Q.length fc, .int .u64 S.last, .int .i64 S.cur, .map (some mb)] tM (0, 0)) := by rw [e, hset_row r1]; rfl
  have s1' := s1.fr f2 fun b g q => own_ne w1 r1 (by decide) (q ▸ g)
  have w1' := w1.fr f2 fun b g q => own_ne w1 r1 (by decide) (q ▸ g)
  have n1 : ∀ b, blkA fa b → ¬ (blkA ra b ∨ b = p) := fun b g q => q.elim (own_ne2 M.oi M.oq (by decide) b g) fun q => own_ne M.oq M.row (by decide) (q ▸ g)
  have n3 : ∀ d ∈ Ds, ∀ b, blkA d.a b → ¬ (blkA ra b ∨ b = p) := fun d hd b g q => q.elim (own_ne2 M.oi (M.ds d hd).2 (by decide) b g) fun q => own_ne (M.ds d hd).2 M.row (by decide) (q ▸ g)
  have hs := f.size
  refine ⟨{ row := r2, si := s1', oi := w1', sq := M.sq.fr f n1, oq := M.oq.fr f n1, mp := M.mp.fr f fun q => q.elim (own_map M.oi M.mp) fun q => row_map M.row M.mp q.symm, dk := M.dk,
            ds := fun d hd => ⟨(M.ds d hd).1.fr f (n3 d hd), (M.ds d hd).2.fr f (n3 d hd)⟩, eD := M.eD, sep := M.sep, sf := M.sf, wp := .inl M.wp, wm := .inl M.wm, wi := fun b g => ?_, wq := fun b g => .inl (M.wq b g), wd := fun d hd b g => .inl (M.wd d hd b g), lt := fun b g => ?_ }, f.mono fun b _ s => s.elim (M.wi b) fun e => e ▸ M.wp⟩
  · rcases hb b g with q | q
    · exact .inl (M.wi b q)
    · exact .inr ⟨q, (w1'.low g).2⟩
  · rcases g with g | g
    · have := M.lt b g; omega
    · exact g.2
end

theorem cbL : CallB Try.prog 52 := fun _ _ => Try.call52 _ _
section
variable {h : Heap} {a : Option Addr} {c : Nat} {G : List Inf}
theorem pick_c (s : Sl eInf h a c G) {lb : Nat} {T : TypeId} (r : h[lb]? = some (.cells #[.slice a G.length c] T (0, 0))) {x : Int} (hx : x ∈ ints G.length) :
    HCV Try.prog (.func (.func 52) #[] #[ptr lb 0]) [.int .i64 x] h fun v h' => v = .bool (!isF G x) ∧ h' = h := by
  have hi := ints_mem.1 hx
  obtain ⟨b, o, e, d⟩ := s.at (List.getElem?_eq_getElem (show x.toNat < G.length by omega))
  refine .inl ⟨52, [], [ptr lb 0], rfl, cbL, ?_⟩
  refine f52_sh _ _ _ _ _ ⟨_, _, _, by rw [hcell_row r]; rfl, b, o, e, hi.1, hi.2, _, d.1, ?_, rfl⟩
  unfold isF
  rw [gt_eq (show x.toNat < G.length by omega)]
  rfl

set_option maxHeartbeats 1600000 in
theorem load_m (s : Sl eInf h a c G) (hl : G.length ≤ 1048576) (h0 : ∀ i, 0 ≤ (gt G i).sq) (last : Int) : HC Try.prog 29 #[.slice a G.length c, .int .u64 last] h fun v h' =>
    Ext h h' ∧ ((v = .tuple #[.pointer none, .int .i64 1] ∧ ¬ Good G last) ∨ (Good G last ∧ ∃ p, v = .tuple #[ptr p 0, .int .i64 0] ∧ HasM (fresh h h') h' p (SL G last))) := by
  refine f29_sh _ _ _ _ _ _ fun lb h1 e1 eh1 => ?_
  have x1 : Ext h h1 := by rw [eh1]; exact Ext.push _ _
  have r1 : h1[lb]? = some (.cells #[.slice a G.length c] 28 (0, 0)) := by rw [eh1]; exact push_new e1
  clear eh1
  have s1 := x1.size
  have llb := row_lt r1
  refine ⟨_, _, _, by rw [hcell_row r1]; rfl, (new_m _ h1).mono ?_⟩
  rintro v h2 ⟨x2, hm⟩
  rcases hm with ⟨rfl, hn⟩ | ⟨hn, p, rfl, H⟩
  · refine ⟨_, _, rfl, fun j h3 => j = true ∧ h3 = h2, ⟨fun _ => ⟨rfl, rfl⟩, fun g => by simp at g⟩, ?_⟩
    rintro _ h3 ⟨rfl, rfl⟩
    exact ⟨fun _ => ⟨x1.trans x2, .inl ⟨rfl, fun q => hn (by have := q.1; omega)⟩⟩, fun g => (by cases g)⟩
  refine ⟨some ⟨p, 0, none⟩, _, rfl, fun j h3 => Ext h2 h3 ∧ (j = false ↔ Ok last G G.length ∧ last ≤ 9223372036854775807), ⟨fun g => by simp at g, fun _ => ⟨_, _, _, by rw [hcell_row (x2.row r1)]; rfl, (loads_m (s.ext (x1.trans x2)) hl h0 last).mono ?_⟩⟩, ?_⟩
  · rintro _ h4 ⟨x4, r, rfl, hr⟩
    exact ⟨r, rfl, x4, by rw [← hr]; cases r <;> simp⟩
  rintro j h3 ⟨x3, hj⟩
  refine ⟨fun g => ⟨x1.trans (x2.trans x3), .inl ⟨rfl, fun q => ?_⟩⟩, fun g => ?_⟩
  · have := hj.2 q.2; rw [g] at this; cases this
  have good : Good G last := ⟨by omega, hj.1 g⟩
  refine ⟨_, _, _, by rw [hcell_row ((x2.trans x3).row r1)]; rfl, (clone_i (s.ext (x1.trans (x2.trans x3))) hl).mono ?_⟩
  rintro _ h5 ⟨a5, c5, rfl, x5, s5, w5⟩
  have s2 := x2.size
  have s3 := x3.size
  have s5' := x5.size
  obtain ⟨ra, fa, qc, fc, mb, kv, Ds, M3⟩ := H.ext x3
  obtain ⟨j1, j2⟩ := M3.setL (x5.fr _) s5 (w5.down (Nat.zero_le _)) (fun b g => .inr (w5.low g).1) rfl
  refine ⟨_, _, _, rfl, p, 0, rfl, j1, fun h6 e6 => ?_⟩
  obtain ⟨M6, f6⟩ := j2 h6 e6
  clear e6 j1 j2
  refine ⟨HW_row M6.row (by simp), fun h7 e7 => ?_⟩
  have f7 := fr_hset_of e7
  have M7 := M6.setP (last := last) (cur := -1) f7 (by rw [e7, hset_row M6.row]; rfl)
  clear e7
  have s6 := f6.size
  have s7 := f7.size
  have hp1 := M3.wp.1
  have x37 : Fr (fun b => h1.size ≤ b) h3 h7 := (f6.mono fun b _ g => g.1).trans f7 fun b _ g => by omega
  have x7 : Ext h h7 := (((x1.trans (x2.trans x3)).fr _).trans x37 fun _ _ g => g).ext fun b hb g => by omega
  have r7 : h7[lb]? = _ := x37.row ((x2.trans x3).row r1) (by omega)
  have hq : ints ((G.length : Int).toNat) = ints G.length := by rw [Int.toNat_natCast]
  have hfa : ∀ b, blkA fa b → h1.size ≤ b := fun b g => (M3.wq b g).1
  refine ⟨_, _, _, by rw [hcell_row M7.row]; rfl, (delf_m (pr := isF G) M7.sq M7.oq (by show (ints _).length ≤ _; rw [ints_len]; omega) fun h8 f8 x hx => ?_).mono ?_⟩
  · refine pick_c (s.ext ((x7.fr _).trans f8 (fun _ _ g => g) |>.ext fun b hb g => by have := hfa b g; omega)) (f8.row r7 fun g => by have := hfa lb g; omega) ?_
    rw [← hq]; exact hx
  · rintro _ h8 ⟨f8, a8, c8, rfl, s8, w8, b8⟩
    obtain ⟨k1, k2⟩ := M7.setQ f8 s8 w8 (fun b g => .inl (b8 b g)) rfl
    refine ⟨_, _, _, rfl, k1, fun h9 e9 => ?_⟩
    obtain ⟨M9, f9⟩ := k2 h9 e9
    have s9 := f9.size
    refine ⟨((x7.fr _).trans f9 fun _ _ g => g).ext fun b hb g => ?_, .inr ⟨good, p, rfl, _, _, _, _, _, _, _, M9.mono (fun b g => ?_) fun b g => g.2⟩⟩
    · rcases g with g | g
      · have := g.1; omega
      · have := g.1; omega
    · unfold fresh
      rcases g with (g | g) | g
      · have := g.1; have := g.2; omega
      · omega
      · omega
end
end Mg
end Go.Proofs.Ytfdgjgjcppfmiaa
