/-
Going over a region's records: what Region gives, called.
-/
import Derived.Test.YthjehlocmikchaaDoorUB
import Derived.Test.YthjehlocmikchaaDoorTCc
import Derived.Test.YthjehlocmikchaaDoorTE
namespace Go.Proofs.YthjehlocmikchaaDoor
namespace Sc
open Go
/-- What may become of memory between two calls of those who are handed the records. -/
structure Kin (h h3 h4 h5 : Heap) : Prop where
  size : h4.size ≤ h5.size
  block : ∀ b : Nat, b < h4.size → ¬ (h.size ≤ b ∧ b < h3.size) → h5[b]? = h4[b]? ∨ (h.size ≤ b ∧ h4[b]? = some (.deferred (some [])) ∧ h5[b]? = some (.deferred none))
theorem Kin.refl (h h3 h4 : Heap) : Kin h h3 h4 h4 := ⟨Nat.le_refl _, fun _ _ _ => .inl rfl⟩
theorem Kin.trans {h h3 a b c : Heap} (x : Kin h h3 a b) (y : Kin h h3 b c) : Kin h h3 a c := ⟨Nat.le_trans x.size y.size, fun i hi hn => by
  rcases x.block i hi hn with e | ⟨e1, e2, e3⟩
  · rcases y.block i (Nat.lt_of_lt_of_le hi x.size) hn with f | ⟨f1, f2, f3⟩
    · exact .inl (f.trans e)
    · exact .inr ⟨f1, e ▸ f2, f3⟩
  · rcases y.block i (Nat.lt_of_lt_of_le hi x.size) hn with f | ⟨f1, f2, f3⟩
    · exact .inr ⟨e1, e2, f.trans e3⟩
    · rw [e3] at f2; cases f2⟩
theorem Kin.ext {h h3 a b : Heap} (x : Ext a b) : Kin h h3 a b := ⟨x.size, fun i hi _ => .inl (x.block i hi)⟩
theorem Kin.fr {h h3 a b : Heap} {S : Nat → Prop} (x : Fr S a b) (hS : ∀ i, S i → h.size ≤ i ∧ i < h3.size) : Kin h h3 a b := ⟨x.size, fun i hi hn => .inl (x.block i hi fun q => hn (hS i q))⟩
theorem Kin.shut {h h3 a b : Heap} (x : Shut' h.size a b) : Kin h h3 a b := ⟨by rw [x.size]; exact Nat.le_refl _, fun i _ _ => x.block i⟩
theorem Kin.low {h h3 a b : Heap} (x : Kin h h3 a b) {i : Nat} (hi : i < a.size) (hl : i < h.size) : b[i]? = a[i]? := by
  rcases x.block i hi (fun q => by omega) with e | ⟨e, _⟩
  · exact e
  · omega
theorem Kin.row {h h3 a b : Heap} (x : Kin h h3 a b) {i : Nat} {cs : Array Value} {T : TypeId} {fr : Nat × Nat} (r : a[i]? = some (.cells cs T fr)) (hn : i < h.size ∨ h3.size ≤ i) : b[i]? = some (.cells cs T fr) := by
  rcases x.block i (row_lt r) (fun q => by omega) with e | ⟨_, e, _⟩
  · rw [e]; exact r
  · rw [r] at e; cases e
def recsL (g : Geo) (L : List Int) : List Fo := if fits g L then match headD g L with | none => [] | some x => (recsOf g x x.rg L).1 else []
theorem cbR : CallB Tryd.prog 49 := fun _ _ => Tryd.call49 _ _
section
variable {h : Heap} {a : Option Addr} {c : Nat} {L : List Int}
set_option maxHeartbeats 6400000 in
theorem region_go {gb ib : Nat} {Tg Ti : TypeId} {fg fi : Nat × Nat} {y : Value} {R : Value → Heap → Prop} (g : Geo) (T : Nat → Prop) (yc : Value.cells y = #[y]) (t : Tab h) (s : Sl eB h a c L) (hb : isB L)
    (rg : h[gb]? = some (.cells (rowG g) Tg fg)) (ri : h[ib]? = some (.cells #[.slice a L.length c] Ti fi)) (ta : ∀ b, blkA a b → ¬ T b)
    (hs : ∀ h3, Ext h h3 → ∃ J : Nat → Heap → Prop, J 0 h3 ∧ (∀ k h4 h5, J k h4 → Kin h h3 h4 h5 → J k h5) ∧
      (∀ k (hk : k < (recsL g L).length) h4, J k h4 → HCV Tryd.prog y [.int .i64 (recsL g L)[k].off, (recsL g L)[k].rc.v] h4 fun vv h7 => Fr (Yt T h h3) h4 h7 ∧ ∃ b : Bool, vv = .bool b ∧ (b = false → ∀ h8, Kin h h3 h7 h8 → R (.tuple #[]) h8) ∧ (b = true → J (k + 1) h7)) ∧
      (∀ h4, J (recsL g L).length h4 → R (.tuple #[]) h4)) :
    HCF Tryd.prog (.func (.func 49) #[] #[ptr gb 0, ptr ib 0]) [y] h R := by
  refine ⟨49, [], [ptr gb 0, ptr ib 0], rfl, cbR, ?_⟩
  refine f49_sh _ _ _ _ _ _ _ ⟨yc, fun yb h1 eyb e1 => ?_⟩
  have x1 : Ext h h1 := by rw [e1]; exact Ext.push _ _
  have ry1 : h1[yb]? = some (.cells #[y] 100 (0, 0)) := by rw [e1, push_new eyb]
  have zs1 : h1.size = h.size + 1 := by rw [e1]; simp
  have glt := row_lt rg
  have ilt := row_lt ri
  obtain ⟨q1, q2, q3, q4⟩ := G4 (x1.row rg)
  refine ⟨_, _, _, _, q1, q2, q3, q4, (bytes_m g h1).mono ?_⟩
  rintro _ h2 ⟨rfl, x2⟩
  have x12 := x1.trans x2
  have hz2 := x2.size
  have quit : recsL g L = [] → ∀ h3, Shut' h.size h2 h3 → R (.tuple #[]) h3 := fun hr h3 s3 => by
    obtain ⟨J, j0, jx, _, je⟩ := hs h2 x12
    rw [hr] at je
    exact je h3 (jx 0 h2 h3 j0 (Kin.shut s3))
  by_cases hf : fits g L
  rotate_left
  · have hr : recsL g L = [] := by unfold recsL; rw [if_neg hf]
    by_cases hg : Gok g
    · rw [if_pos hg]
      refine ⟨x2, _, _, _, rfl, true, ⟨fun e => by simp at e, fun _ => ⟨_, _, _, by rw [hcell_row (x12.row ri)]; rfl, ?_⟩⟩, fun _ => quit hr, fun e => by cases e⟩
      rw [eq_comm, bne_iff_ne]
      intro e; exact hf ⟨hg, e.symm⟩
    · rw [if_neg hg]
      exact ⟨x2, _, _, _, rfl, true, ⟨fun _ => rfl, fun e => by simp at e⟩, fun _ => quit hr, fun e => by cases e⟩
  have hg := hf.1
  have hL := hf.2
  rw [if_pos hg]
  refine ⟨x2, _, _, _, rfl, false, ⟨fun e => by simp at e, fun _ => ⟨_, _, _, by rw [hcell_row (x12.row ri)]; rfl, by simp [hL]⟩⟩, fun e => (by cases e), fun _ ev h4 eev e4 => ?_⟩
  have x4 : Ext h2 h4 := by rw [e4]; exact Ext.push _ _
  have x14 := x12.trans x4
  have re4 : h4[ev]? = some (.cells #[.int .i64 0, .int .i64 0] 34 (0, 0)) := by rw [e4, push_new eev]
  have zs4 : h4.size = h2.size + 1 := by rw [e4]; simp
  obtain ⟨q1, q2, q3, q4⟩ := G4 (x14.row rg)
  refine ⟨_, _, _, _, q1, q2, q3, q4, _, _, _, by rw [hcell_row (x14.row ri)]; rfl, f34_sh _ _ _ _ _ _ _ _ _ _ _ fun g' h4a eg' e4a i' h4b ei' e4b ev' h5 eev' e5 => ⟨_, rfl, ?_⟩⟩
  have x4a : Ext h4 h4a := by rw [e4a]; exact Ext.push _ _
  have x4b : Ext h4a h4b := by rw [e4b]; exact Ext.push _ _
  have x5 : Ext h4b h5 := by rw [e5]; exact Ext.push _ _
  have zs4a : h4a.size = h4.size + 1 := by rw [e4a]; simp
  have zs4b : h4b.size = h4a.size + 1 := by rw [e4b]; simp
  have zs5 : h5.size = h4b.size + 1 := by rw [e5]; simp
  have r4a : h4a[g']? = some (.cells (rowG g) 24 (0, 0)) := by rw [e4a]; exact push_new eg'
  have r4b : h4b[i']? = some (.cells #[.slice a L.length c] 25 (0, 0)) := by rw [e4b]; exact push_new ei'
  have r5 : h5[ev']? = some (.cells #[ptr ev 0] 85 (0, 0)) := by rw [e5]; exact push_new eev'
  intro Lp l h6 y' stay el x6 zs6 hL6 hyld
  have x46 := x4a.trans (x4b.trans (x5.trans x6))
  have x06 : Ext h h6 := x14.trans x46
  let T' : Nat → Prop := fun b => (b < h.size ∧ T b) ∨ b = l
  have ha : ∀ b, blkA a b → L.length = 0 ∨ b < h.size := fun b hb => by
    obtain ⟨x', ex, rfl⟩ := hb
    rcases Nat.eq_zero_or_pos L.length with h0 | h0
    · exact .inl h0
    · obtain ⟨b', o', e, hcs⟩ := s.addr h0
      rw [e] at ex; cases ex
      exact .inr (hcell_lt ((hcs 0 _ (List.getElem?_eq_getElem h0)).get (j := 0) rfl))
  have bk := ok_bounds hg
  have fin : ∀ {h3' hx : Heap}, Ext h h3' → h6.size ≤ h3'.size → HWs hx ev 0 2 → Lp .ready none hx → h3'.size ≤ hx.size → (∀ h9, Kin h h3' hx h9 → R (.tuple #[]) h9) → ∀ {q w : Int}, (∃ (st : LoopState) (pend : Option Code), Lp st pend (hsets hx ev 0 [.int .i64 q, .int .i64 w]) ∧ st ≠ .busy ∧ ∀ h9, Only l (hsets hx ev 0 [.int .i64 q, .int .i64 w]) h9 → Lp .exhausted pend h9 → ((pend = none ∧ (∀ h16, Shut' (Array.size h) h9 h16 → R (.tuple #[]) h16)) ∨ (pend = some .ret ∧ (∀ h17, Shut' (Array.size h) h9 h17 → R (.tuple #[]) h17)))) := fun {h3' hx} _ z3 _ hl zx hR {q w} => by
    refine ⟨.ready, none, stay _ _ _ _ hl (hsets_ne _ (by omega)), by decide, fun h9 o9 _ => .inl ⟨rfl, fun h16 s16 => hR h16 ?_⟩⟩
    refine Kin.trans (b := hsets hx ev 0 [.int .i64 q, .int .i64 w]) (Kin.fr (fr_hsets (fun b => b = ev) fun _ => rfl) fun i hi => by omega) ?_
    refine Kin.trans (Kin.fr o9.fr fun i hi => by omega) (Kin.shut s16)
  refine found_go g T' (t.ext x06) hf (s.ext x06) hb ((x4b.trans (x5.trans x6)).row r4a) ((x5.trans x6).row r4b) (x6.row r5) (fun q => by rcases q with q | q <;> omega) (fun q => by rcases q with q | q <;> omega) (fun q => by rcases q with q | q <;> omega) (fun b hb q => by
    rcases q with q | q
    · exact ta b hb q.2
    · rcases ha b hb with h0 | h0
      · omega
      · omega) (by omega) ?_ ?_
  · intro hno h3' x3'
    obtain ⟨J, j0, jx, _, je⟩ := hs h3' (x06.trans x3')
    have hr : recsL g L = [] := by unfold recsL; rw [if_pos hf, hno]
    rw [hr] at je
    have hw : HWs h3' ev 0 2 := HWs_row ((x46.trans x3').row re4) (by simp)
    exact ⟨hw, fin (x06.trans x3') x3'.size hw (stay _ _ _ _ hL6 (x3'.block l (by omega))) (Nat.le_refl _) fun h9 k9 => je h9 (jx 0 h3' h9 j0 k9)⟩
  · intro x hx h3' x3'
    obtain ⟨J, j0, jx, jy, je⟩ := hs h3' (x06.trans x3')
    have hr : recsL g L = (recsOf g x x.rg L).1 := by unfold recsL; rw [if_pos hf, hx]
    rw [hr] at jy je
    generalize (recsOf g x x.rg L).1 = rs at *
    have z3' := x3'.size
    let J' : Nat → Heap → Prop := fun k hh => J k hh ∧ Lp .ready none hh ∧ h3'.size ≤ hh.size ∧ hh[yb]? = some (.cells #[y] 100 (0, 0)) ∧ hh[ev]? = some (.cells #[.int .i64 0, .int .i64 0] 34 (0, 0))
    refine ⟨J', ⟨j0, stay _ _ _ _ hL6 (x3'.block l (by omega)), Nat.le_refl _, ((x2.trans x4).trans (x46.trans x3')).row ry1, (x46.trans x3').row re4⟩, ?_, ?_, ?_⟩
    · rintro k h7 h8 ⟨j1, j2, j3, j4, j5⟩ xx
      exact ⟨jx _ _ _ j1 (Kin.ext xx), stay _ _ _ _ j2 (xx.block l (by omega)), Nat.le_trans j3 xx.size, xx.row j4, xx.row j5⟩
    · rintro k hk h7 f7 ⟨j1, j2, j3, j4, j5⟩
      refine hyld _ _ _ _ _ _ _ h7 _ j2 fun f h10 ef e10 => ?_
      have x10 : Ext h7 h10 := by rw [e10]; exact Ext.push _ _
      have rf10 : h10[f]? = some (.cells #[.int .i64 0, .int .i64 0, .int .i64 0, .int .i64 0, .int .u64 0, .string ByteArray.empty, .string ByteArray.empty] 45 (0, 0)) := by rw [e10]; exact push_new ef
      refine ⟨HWs_row rf10 (by simp), fun h11 e11 => ?_⟩
      have x11 : Ext h7 h11 := ext_hsets e11 x10 (by omega)
      have hjy := jy k hk
      generalize hfo : rs[k] = fo at *
      have rf11 : h11[f]? = some (.cells fo.cs.toArray 45 (0, 0)) := row_hsets_eq e11 rf10 (by simp [sets])
      have zs10 : h10.size = h7.size + 1 := by rw [e10]; simp
      have zs11 : h11.size = h10.size := by rw [e11, hsets_size]
      refine ⟨stay _ _ _ _ j2 (x11.block l (by omega)), fun h12 o12 l12 => ?_⟩
      have f12 := o12.fr
      have rf12 := f12.row rf11 (by omega)
      have ry12 := f12.row (x11.row j4) (by omega)
      have re12 := f12.row (x11.row j5) (by omega)
      have zs12 := o12.size
      refine ⟨y, by rw [hcell_row ry12]; rfl, fo.off, by rw [hcell_row rf12]; rfl, fo.rc.kind, fo.rc.ver, fo.rc.key, fo.rc.val, by rw [hcell_row rf12]; rfl, by rw [hcell_row rf12]; rfl, by rw [hcell_row rf12]; rfl, by rw [hcell_row rf12]; rfl, HCV.mono (hjy h12 (jx _ _ _ j1 ((Kin.ext x11).trans (Kin.fr f12 fun i hi => by omega)))) ?_⟩
      rintro _ h13 ⟨f13, b, rfl, hbf, hbt⟩
      have nY : ∀ {i}, h.size ≤ i → i < h3'.size → ¬ Yt T h h3' i := fun h1 h2 q => by rcases q with q | q <;> omega
      have z13 := f13.size
      have k13 : Lp .busy none h13 := stay _ _ _ _ l12 (f13.block l (by omega) (nY (by omega) (by omega)))
      have ry13 := f13.row ry12 (nY (by omega) (by omega))
      have re13 := f13.row re12 (nY (by omega) (by omega))
      have F : Fr (Yt T' h6 h3') h7 h13 := by
        refine Fr.trans (x11.fr _) ?_ fun _ _ q => q
        refine Fr.trans (f12.mono fun i _ q => .inl ⟨by omega, .inr q⟩) ?_ fun _ _ q => q
        refine f13.mono fun i _ q => ?_
        rcases q with q | q
        · have := x06.size
          exact .inl ⟨by omega, .inl q⟩
        · exact .inr q
      refine ⟨b, rfl, fun e => ?_, fun e => ?_⟩
      · have eb : b = false := by cases b; rfl; simp at e
        refine ⟨k13, fun h14 o14 l14 => ⟨F.trans (o14.fr.mono fun i _ q => .inl ⟨by omega, .inr q⟩) fun _ _ q => q, false, rfl, fun _ => ⟨.done, some .ret, l14, by decide, fun h9 o9 l9 => .inr ⟨rfl, fun h17 s17 => ?_⟩⟩, fun e => by cases e⟩⟩
        exact hbf eb h17 (Kin.trans (Kin.fr o14.fr fun i hi => by omega) (Kin.trans (Kin.fr o9.fr fun i hi => by omega) (Kin.shut s17)))
      · have eb : b = true := by cases b; simp at e; rfl
        refine ⟨k13, fun h15 o15 l15 => ⟨F.trans (o15.fr.mono fun i _ q => .inl ⟨by omega, .inr q⟩) fun _ _ q => q, true, rfl, fun e => (by cases e), fun _ => ⟨jx _ _ _ (hbt eb) (Kin.fr o15.fr fun i hi => by omega), l15, by have := o15.size; omega, o15.fr.row ry13 (by omega), o15.fr.row re13 (by omega)⟩⟩⟩
    · rintro h7 f7 ⟨j1, j2, j3, j4, j5⟩
      have hw : HWs h7 ev 0 2 := HWs_row j5 (by simp)
      exact ⟨hw, fin (x06.trans x3') (by omega) hw j2 j3 fun h9 k9 => je h9 (jx _ h7 h9 j1 k9)⟩
end
end Sc
end Go.Proofs.YthjehlocmikchaaDoor
