import Derived.Laws.BytesString
import Derived.Test.YtcdpapdefdnknaaProg
import Derived.Test.YtcdpapdefdnknaaPd1
namespace Go.Proofs.Ytcdpapdefdnknaa
open Go
abbrev eB : Elt Int := eInt .u8
def toL (s : ByteArray) : List Int := s.data.toList.map fun b => (b.toNat : Int)
theorem toL_len (s : ByteArray) : (toL s).length = s.size := by unfold toL; rw [List.length_map]; rfl
def isB (L : List Int) : Prop := ∀ x ∈ L, 0 ≤ x ∧ x < 256
theorem toL_isB (s : ByteArray) : isB (toL s) := fun x hx => by
  obtain ⟨b, _, rfl⟩ := List.mem_map.1 hx
  have := b.toNat_lt; omega
section
variable {P : Program} {ρ : Regs} {h : Heap} {d : Option Nat} {ty : TypeId} {p : String} {af : Array Edge} {g : Option (Nat × Bool)}
def ibV (op : BinOp) (k : IntKind) (x y : Int) : Option Int :=
  match op with
  | .and => some (k.wrap (BitVec.ofInt k.bits x &&& BitVec.ofInt k.bits y).toNat)
  | .or => some (k.wrap (BitVec.ofInt k.bits x ||| BitVec.ofInt k.bits y).toNat)
  | .xor => some (k.wrap (BitVec.ofInt k.bits x ^^^ BitVec.ofInt k.bits y).toNat)
  | .andNot => some (k.wrap (BitVec.ofInt k.bits x &&& ~~~ BitVec.ofInt k.bits y).toNat)
  | _ => none
def iband (k : IntKind) (x y : Int) : Int := k.wrap (BitVec.ofInt k.bits x &&& BitVec.ofInt k.bits y).toNat
def ibor (k : IntKind) (x y : Int) : Int := k.wrap (BitVec.ofInt k.bits x ||| BitVec.ofInt k.bits y).toNat
def ibxor (k : IntKind) (x y : Int) : Int := k.wrap (BitVec.ofInt k.bits x ^^^ BitVec.ofInt k.bits y).toNat
theorem hv_bits {op : BinOp} {t t' : TypeId} {x y : Operand} {k : IntKind} {a b v : Int} (hx : ev ρ x = .int k a) (hy : ev ρ y = .int k b) (hv : ibV op k a b = some v) : HVal P ρ ⟨d, .binOp op t x y t', ty, p, af, g⟩ h (.int k v) :=
  hv_of fun w _ => by
    cases op <;> simp only [ibV, Option.some.injEq, reduceCtorEq] at hv <;> subst hv <;> simp [execOp, hx, hy, go_sem, eqGuard, binOp, Op.intBits]
def elA (P : Program) (t : TypeId) : Option (Nat × Nat) := match P.underlying t with | some (.array n e) => (szB P e).map fun z => (n, z) | _ => none
theorem hv_indexA {t : TypeId} {x y : Operand} {b o n sz : Nat} {k : IntKind} {i : Int} (he : elA P t = some (n, sz)) (hx : ev ρ x = ptr b o) (hy : ev ρ y = .int k i) (h0 : 0 ≤ i) (h1 : i < n) : HVal P ρ ⟨d, .indexAddr t x y, ty, p, af, g⟩ h (ptr b (o + i.toNat * sz)) :=
  hv_of fun w _ => by
    unfold elA at he
    split at he <;> try cases he
    rename_i n' e hu
    cases hz : szB P e with
    | none => rw [hz] at he; cases he
    | some z =>
      rw [hz] at he
      simp only [Option.map_some, Option.some.injEq, Prod.mk.injEq] at he
      obtain ⟨rfl, rfl⟩ := he
      simp [execOp, hx, hy, ptr, go_sem, Instr.indexAt, Instr.sureAddr, asIntOf, run_underlying hu, h0, h1, run_sizeOf hz, add_lit]
def Byt (h : Heap) (a : Option Addr) (n : Nat) (L : List Int) : Prop := L.length = n ∧ (n = 0 ∨ ∃ b o, a = some ⟨b, o, none⟩ ∧ HCells h b o (L.map (Value.int .u8)))
theorem Sl.byt {a : Option Addr} {c : Nat} {L : List Int} (s : Sl eB h a c L) : Byt h a L.length L := by
  refine ⟨rfl, ?_⟩
  cases hl : L with
  | nil => exact .inl rfl
  | cons y L' =>
    obtain ⟨b, o, e, hc⟩ := s.addr (by rw [hl]; simp)
    rw [← hl]
    refine .inr ⟨b, o, e, HCells.mk fun j v hj => ?_⟩
    rw [List.getElem?_map] at hj
    cases hx : L[j]? with
    | none => rw [hx] at hj; simp at hj
    | some x =>
      rw [hx] at hj; simp at hj; subst hj
      have := (hc j x hx).get (j := 0) (v := .int .u8 x) rfl
      have k1 : eB.k = 1 := rfl
      rw [k1, Nat.mul_one] at this
      simpa using this
theorem Byt.ext {h h' : Heap} (he : Ext h h') {a : Option Addr} {n : Nat} {L : List Int} (b : Byt h a n L) : Byt h' a n L :=
  ⟨b.1, b.2.imp id fun ⟨q, o, e, hc⟩ => ⟨q, o, e, HCells.mk fun _ _ hj => he.cell (hc.get hj)⟩⟩
def hfrz (h : Heap) (b n : Nat) : Heap := h.modify b fun
  | .cells c elem (lo, hi) => .cells c elem (if lo == hi then (n, n + 1) else (min lo n, max hi (n + 1)))
  | o => o
theorem hfrz_size {b n : Nat} : (hfrz h b n).size = h.size := by unfold hfrz; simp
theorem HG.hfrz (h : Heap) (b n : Nat) : HG h (hfrz h b n) := ⟨by rw [hfrz_size]; exact Nat.le_refl _, fun i hi => by
  unfold Go.Proofs.Ytcdpapdefdnknaa.hfrz; rw [Array.getElem?_modify]
  split
  · rename_i e; subst e; rw [hi]; rfl
  · exact hi⟩
theorem run_markS {w : World} {b o n : Nat} {cs : Array Value} {T : TypeId} (r : w.heap[b]? = some (.cells cs T (0, 0))) (hn : n = cs.size) : (markStringish ⟨b, o, none⟩).run P w = .ok () { w with heap := hfrz w.heap b n } := by
  subst hn
  have hs : w.shape? b = some (T, cs.size) := by unfold World.shape?; rw [r]
  unfold markStringish
  simp only [Sem.run_bind, run_shape, Result.andThen_ok, hs, run_freeze]
  congr 1
theorem hs_s2b {src dst e : TypeId} {x : Operand} {s : ByteArray} {K : Value → Heap → Prop} (hs : P.underlying src = some .string) (hd : P.underlying dst = some (.slice e)) (he : P.underlying e = some (.int .u8)) (hx : ev ρ x = .string s) (h63 : s.size < 9223372036854775807)
    (hk : ∀ b cap h', b = h.size → s.size ≤ cap → cap ≤ 9223372036854775807 → h' = h.push (.cells ((toL s).map (Value.int .u8) ++ List.replicate (cap - s.size) (Value.int .u8 0)).toArray e (cap, cap + 1)) → K (.slice (some ⟨b, 0, none⟩) s.size cap) h') :
    HStep P ρ ⟨d, .convert src dst x, ty, p, af, g⟩ h K := by
  intro w hw
  subst hw
  have hcm : grownCap w s.size 0 e ≤ 9223372036854775807 := by
    have hlt := Nat.mod_lt (w.tape w.drawn (.appendCap s.size 0 e)) (show 0 < 2 ^ 63 - s.size by omega)
    simp only [grownCap, Question.cut]
    omega
  have hcg : s.size ≤ grownCap w s.size 0 e := by simp [grownCap, Question.cut]
  have hrow : ∀ cap, s.size ≤ cap → (s.data.map (fun b => Value.int .u8 b.toNat) ++ Array.replicate (cap - s.size) (Value.int .u8 0)) = ((toL s).map (Value.int .u8) ++ List.replicate (cap - s.size) (Value.int .u8 0)).toArray := fun cap _ => by
    apply Array.ext'
    simp [toL]
  have hsz : ∀ cap, s.size ≤ cap → (((toL s).map (Value.int .u8) ++ List.replicate (cap - s.size) (Value.int .u8 0)).toArray).size = cap := fun cap hc => by
    simp [toL_len]; omega
  have hpush : ∀ (H : Heap) cs T n, (hfrz (H.push (.cells cs T (0, 0))) H.size n) = H.push (.cells cs T (n, n + 1)) := fun H cs T n => by
    apply Array.ext (by simp [hfrz])
    intro i h1 h2
    simp only [hfrz, Array.getElem_modify, Array.getElem_push]
    split
    · rename_i e; subst e; simp
    · rename_i e
      have h3 : i < H.size := by simp at h2; omega
      rw [dif_pos h3, dif_pos h3]
  have hc : (convert src dst (.string s)).run P w = .ok (.slice (some ⟨w.heap.size, 0, none⟩) s.size (grownCap w s.size 0 e)) { w with drawn := w.drawn + 1, heap := w.heap.push (.cells ((toL s).map (Value.int .u8) ++ List.replicate (grownCap w s.size 0 e - s.size) (Value.int .u8 0)).toArray e (grownCap w s.size 0 e, grownCap w s.size 0 e + 1)) } := by
    simp [convert, run_underlying hs, run_underlying hd, run_underlying he, Conv.stringToBytes, newRow, go_sem]
    rw [show ((Question.appendCap s.size 0 e).cut (w.tape w.drawn (Question.appendCap s.size 0 e))) = grownCap w s.size 0 e from rfl, hrow _ hcg]
    have r : (w.alloc (.cells ((toL s).map (Value.int .u8) ++ List.replicate (grownCap w s.size 0 e - s.size) (Value.int .u8 0)).toArray e)).drew.heap[w.heap.size]? = some (.cells ((toL s).map (Value.int .u8) ++ List.replicate (grownCap w s.size 0 e - s.size) (Value.int .u8 0)).toArray e (0, 0)) := push_new rfl
    rw [run_markS r (hsz _ hcg).symm]
    simp only [Result.andThen_ok]
    have := hpush w.heap ((toL s).map (Value.int .u8) ++ List.replicate (grownCap w s.size 0 e - s.size) (Value.int .u8 0)).toArray e (grownCap w s.size 0 e)
    rw [← this]; rfl
  simp only [execOp, hx, Sem.run_bind, hc, Result.andThen_ok, Sem.run_pure]
  exact ⟨⟨rfl, rfl, rfl, Nat.le_succ _, HG.push _ _⟩, hk _ _ _ rfl hcg hcm rfl⟩
end
end Go.Proofs.Ytcdpapdefdnknaa
namespace Go.Proofs.Ytcdpapdefdnknaa
open Go
section
variable {α : Type} {E : Elt α} {h h' : Heap} {a : Option Addr} {c : Nat} {L : List α} {k : Nat} {T : TypeId} {N : Nat}
theorem flatB (L : List Int) : L.flatMap eB.enc = L.map (Value.int .u8) := by
  induction L with
  | nil => rfl
  | cons x L ih => rw [List.flatMap_cons, ih]; rfl
end
def HCopy (P : Program) (t u : TypeId) (s x : Value) (h : Heap) (K : Value → Heap → Prop) : Prop :=
  ∀ (ty : TypeId) (w : World), w.heap = h → ∃ v w', (Builtin.copy_ #[t, u] ty #[s, x]).run P w = .ok v w' ∧ Sim w w' ∧ K v w'.heap
theorem HCopy.mono {P : Program} {t u : TypeId} {s x : Value} {h : Heap} {K K' : Value → Heap → Prop} (ha : HCopy P t u s x h K) (hk : ∀ v h', K v h' → K' v h') : HCopy P t u s x h K' :=
  fun ty w hw => let ⟨v, w', h1, h2, h3⟩ := ha ty w hw; ⟨v, w', h1, h2, hk _ _ h3⟩
theorem hs_copy {P : Program} {ρ : Regs} {h : Heap} {d : Option Nat} {ty : TypeId} {p : String} {af : Array Edge} {g : Option (Nat × Bool)} {t u : TypeId} {x y : Operand} {vx vy : Value} {K : Value → Heap → Prop} (hx : ev ρ x = vx) (hy : ev ρ y = vy) (ha : HCopy P t u vx vy h K) :
    HStep P ρ ⟨d, .call ⟨.builtin .copy, #[x, y], #[t, u]⟩, ty, p, af, g⟩ h K := by
  intro w hw
  obtain ⟨v, w', h1, h2, h3⟩ := ha ty w hw
  have : (execOp (ev ρ) ⟨d, .call ⟨.builtin .copy, #[x, y], #[t, u]⟩, ty, p, af, g⟩).run P w = .ok (.value v) w' := by
    simp only [execOp, resolve, invoke, builtin, Sem.run_bind, Sem.run_pure, Result.andThen_ok, List.map_toArray, List.map_cons, List.map_nil, hx, hy, h1]
  rw [this]
  exact ⟨h2, h3⟩
theorem hcopy_of {P : Program} {h : Heap} {t u e : TypeId} {size n c m c2 q : Nat} {a a2 : Option Addr} {cs : List Value} (hu : P.underlying t = some (.slice e)) (hz : szB P e = some size) (hq : q = Nat.min m n) (hl : cs.length = q * size) (hone : ∀ v ∈ cs, oneC v = true)
    (hr : cs = [] ∨ ∃ b o, a2 = some ⟨b, o, none⟩ ∧ HCells h b o cs) (hw : cs = [] ∨ ∃ b o, a = some ⟨b, o, none⟩ ∧ HWs h b o cs.length) {K : Value → Heap → Prop}
    (hk : ∀ h', (cs = [] → h' = h) → (∀ b o, a = some ⟨b, o, none⟩ → h' = hsets h b o cs) → K (.int .i64 q) h') : HCopy P t u (.slice a n c) (.slice a2 m c2) h K := by
  intro ty w hwd
  subst hwd
  have hf : (Builtin.firstCells size q (.slice a2 m c2)).run P w = .ok cs.toArray w := by
    cases a2 with
    | none =>
      have : cs = [] := by rcases hr with e | ⟨b, o, e, _⟩; exact e; cases e
      subst this
      simp [Builtin.firstCells, go_sem]
    | some ad =>
      have h1 : (loadCells ad (q * size)).run P w = .ok cs.toArray w := by
        rcases hr with e | ⟨b, o, e, hc⟩
        · subst e
          have : q * size = 0 := by rw [← hl]; rfl
          rw [this]; simp [loadCells, loadCellsFrom, go_sem]
        · cases e
          have := run_loadFrom (P := P) w b o cs 0 #[] hc
          simp only [Array.empty_append, hl] at this
          exact this
      simp only [Builtin.firstCells, h1]
  have hlen : (Builtin.lenOf (.slice a2 m c2)).run P w = .ok m w := by simp [Builtin.lenOf, go_sem]
  cases a with
  | none =>
    have : cs = [] := by rcases hw with e | ⟨b, o, e, _⟩; exact e; cases e
    refine ⟨_, w, ?_, Sim.refl _, hk w.heap (fun _ => rfl) fun b o e => by cases e⟩
    simp [Builtin.copy_, run_underlying hu, run_sizeOf hz, hlen, ← hq, hf, goInt]
  | some ad =>
    rcases hw with e | ⟨b, o, e, hW⟩
    · refine ⟨_, w, ?_, Sim.refl _, hk w.heap (fun _ => rfl) fun b o _ => by subst e; rfl⟩
      subst e
      simp [Builtin.copy_, run_underlying hu, run_sizeOf hz, hlen, ← hq, hf, goInt, storeCells]
    · cases e
      have hst := run_storeCells (P := P) (b := b) (o := o) cs 0 w hone (fun j hj => hW j hj)
      simp only [Nat.add_zero] at hst
      refine ⟨_, { w with heap := hsets w.heap b o cs }, ?_, ⟨rfl, rfl, rfl, Nat.le_refl _, HG.hsets _ _ _ _⟩, hk _ (fun e => by subst e; rfl) fun b' o' e => by cases e; rfl⟩
      simp [Builtin.copy_, run_underlying hu, run_sizeOf hz, hlen, ← hq, hf, goInt, hst]
end Go.Proofs.Ytcdpapdefdnknaa
namespace Go.Proofs.Ytcdpapdefdnknaa
open Go
inductive PT where
  | done
  | one (i : Nat) (t : PT)
  | fork (is : List Nat) (t : Nat → PT)
def treeB (ops : Array Oper) (anc : List Nat) (ks : List Kd) : Nat → PT → Array Bool → Bool
  | _, .done, l => (Region.ready .any ops l).isEmpty
  | f + 1, .one i t, l => stepB ops anc ks i l && treeB ops anc ks f t (l.setIfInBounds i true)
  | f + 1, .fork is t, l => !is.isEmpty && (Region.ready .any ops l == is) && is.all fun i => treeB ops anc ks f (t i) (l.setIfInBounds i true)
  | 0, _, _ => false
def HOne (P : Program) (ops : Array Oper) (ks : List Kd) (T : Heap → Heap → Prop) (C : Regs → Heap → Prop) (i : Nat) (ρ : Regs) (h : Heap) : Prop :=
  match ops[i]? with
  | none => False
  | some o => if Region.wanted o (yl ops ρ) then (match kdOf ks i with
      | .pure => ∃ v, (∀ h', HVal P ρ o h' v) ∧ C (updo ρ o.dst v) h
      | .read => ∃ v, (∀ h', Ext h h' → HVal P ρ o h' v) ∧ C (updo ρ o.dst v) h
      | .stay => ∃ v, (∀ h', T h h' → HVal P ρ o h' v) ∧ C (updo ρ o.dst v) h
      | k => HStep P ρ o h fun v h' => k.ok T h h' ∧ C (updo ρ o.dst v) h')
    else C (updo ρ o.dst undef) h
def HTree (P : Program) (ops : Array Oper) (ks : List Kd) (T : Heap → Heap → Prop) (Q : Regs → Heap → Prop) : PT → Regs → Heap → Prop
  | .done, ρ, h => Q ρ h
  | .one i t, ρ, h => HOne P ops ks T (HTree P ops ks T Q t) i ρ h
  | .fork is t, ρ, h => ∀ i ∈ is, HOne P ops ks T (HTree P ops ks T Q (t i)) i ρ h
theorem hOp_of_one {P : Program} {ops : Array Oper} {ks : List Kd} {T : Heap → Heap → Prop} (hT : Fit T) {C : Regs → Heap → Prop} {i : Nat} {ρ : Regs} {h : Heap} (hp : HOne P ops ks T C i ρ h) : hOp P ops (fun i => (kdOf ks i).ok T) i C ρ h := by
  unfold HOne at hp
  unfold hOp
  cases ho : ops[i]? with
  | none => rw [ho] at hp; exact hp.elim
  | some o =>
    simp only [ho] at hp
    simp only
    by_cases hw : Region.wanted o (yl ops ρ) = true
    · rw [if_pos hw] at hp ⊢
      cases hk : kdOf ks i with
      | pure => simp only [hk] at hp; obtain ⟨v, hv, hn⟩ := hp; exact HStep.of_val (hv h) ⟨rfl, hn⟩
      | read => simp only [hk] at hp; obtain ⟨v, hv, hn⟩ := hp; exact HStep.of_val (hv h (Ext.refl h)) ⟨rfl, hn⟩
      | stay => simp only [hk] at hp; obtain ⟨v, hv, hn⟩ := hp; exact HStep.of_val (hv h (hT.refl h)) ⟨rfl, hn⟩
      | ext => simp only [hk] at hp; exact hp
      | tame => simp only [hk] at hp; exact hp
      | wild => simp only [hk] at hp; exact hp
    · rw [if_neg hw] at hp ⊢
      exact hp
theorem hAny_step {P : Program} {ops : Array Oper} {ks : List Kd} {T : Heap → Heap → Prop} {Q : Regs → Heap → Prop} (hT : Fit T) (hs : Region.noSelect ops = true) {f i : Nat} {l : Array Bool} {ρ : Regs} {h : Heap} {C : Regs → Heap → Prop}
    (hc : Shut ops l) (hB1 : stepB ops (ancs ops.toList []) ks i l = true) (hC : i ∈ Region.ready .any ops l → ∀ ρ h, C ρ h → HAny P ops (fun i => (kdOf ks i).ok T) Q f (l.setIfInBounds i true) ρ h) (hp : HOne P ops ks T C i ρ h) :
    HAny P ops (fun i => (kdOf ks i).ok T) Q (f + 1) l ρ h := by
  have hp0 := hp
  unfold HOne at hp
  cases ho : ops[i]? with
  | none => rw [ho] at hp; exact hp.elim
  | some o =>
    simp only [ho] at hp
    have first : ∀ (U : Heap → Heap → Prop) (v : Value), (∀ h, U h h) → (∀ a b c, U a b → U b c → U a c) → (Region.ready .any ops l).contains i = true → Region.free .any ops l i = true →
        (∀ j, l.getD j true = false → ¬ Desc ops i j → ∀ h h', (kdOf ks j).ok T h h' → U h h') →
        Yl P ops o v (fun h' => U h h') ρ → C (updo ρ o.dst v) h → HAny P ops (fun i => (kdOf ks i).ok T) Q (f + 1) l ρ h := by
      intro U v hUr hUt hr hf hw hy hn
      have hr' : i ∈ Region.ready .any ops l := by simpa using hr
      exact hAny_first ho (Region.noSelect_spec hs) (fun i h => Kd.ok_refl hT _ h) U hUr hUt f l ρ h hc (Region.free_spec ho hf) hw hr' hy (hC hr' _ _ hn)
    have uP : ∀ v, (Region.ready .any ops l).contains i = true → Region.free .any ops l i = true → Yl P ops o v (fun _ => True) ρ → C (updo ρ o.dst v) h → HAny P ops (fun i => (kdOf ks i).ok T) Q (f + 1) l ρ h :=
      fun v hr hf hy hn => first (fun _ _ => True) v (fun _ => trivial) (fun _ _ _ _ _ => trivial) hr hf (fun _ _ _ _ _ _ => trivial) hy hn
    have uR : ∀ v, (Region.ready .any ops l).contains i = true → Region.free .any ops l i = true → aheadB (fun k => k == .wild || k == .tame) (ancs ops.toList []) ks i l = true → Yl P ops o v (fun h' => Ext h h') ρ → C (updo ρ o.dst v) h → HAny P ops (fun i => (kdOf ks i).ok T) Q (f + 1) l ρ h := by
      intro v hr hf hb hy hn
      refine first Ext v Ext.refl (fun _ _ _ => Ext.trans) hr hf (fun j hun hd h h' hk => ?_) hy hn
      have := aheadB_spec (by rfl) hb hun hd
      exact Kd.ok_ext (fun e => by rw [e] at this; simp at this) (fun e => by rw [e] at this; simp at this) hk
    have uS : ∀ v, (Region.ready .any ops l).contains i = true → Region.free .any ops l i = true → aheadB (fun k => k == .wild) (ancs ops.toList []) ks i l = true → Yl P ops o v (fun h' => T h h') ρ → C (updo ρ o.dst v) h → HAny P ops (fun i => (kdOf ks i).ok T) Q (f + 1) l ρ h := by
      intro v hr hf hb hy hn
      refine first T v hT.refl hT.trans hr hf (fun j hun hd h h' hk => ?_) hy hn
      have := aheadB_spec (by rfl) hb hun hd
      exact Kd.ok_T hT (fun e => by rw [e] at this; simp at this) hk
    have lone : ∀ (_hr : Region.ready .any ops l = [i]), HAny P ops (fun i => (kdOf ks i).ok T) Q (f + 1) l ρ h := by
      intro hr
      refine ⟨fun h => (by rw [hr] at h; cases h), fun j hj => ?_⟩
      rw [hr] at hj
      obtain rfl : j = i := by simpa using hj
      exact hOp_mono (hC (by rw [hr]; simp)) (hOp_of_one hT hp0)
    unfold stepB at hB1
    by_cases hw : Region.wanted o (yl ops ρ) = true
    · simp only [hw, if_true] at hp
      cases hk : kdOf ks i with
      | pure =>
        simp only [hk, Bool.and_eq_true] at hB1 hp
        obtain ⟨v, hv, hn⟩ := hp
        exact uP v hB1.1 hB1.2 (.inl ⟨hw, fun h' _ => hv h'⟩) hn
      | read =>
        simp only [hk, Bool.and_eq_true] at hB1 hp
        obtain ⟨v, hv, hn⟩ := hp
        exact uR v hB1.1.1 hB1.1.2 hB1.2 (.inl ⟨hw, fun h' hh' => hv h' hh'⟩) hn
      | stay =>
        simp only [hk, Bool.and_eq_true] at hB1 hp
        obtain ⟨v, hv, hn⟩ := hp
        exact uS v hB1.1.1 hB1.1.2 hB1.2 (.inl ⟨hw, fun h' hh' => hv h' hh'⟩) hn
      | ext => simp only [hk, beq_iff_eq] at hB1; exact lone hB1
      | tame => simp only [hk, beq_iff_eq] at hB1; exact lone hB1
      | wild => simp only [hk, beq_iff_eq] at hB1; exact lone hB1
    · have hw' : Region.wanted o (yl ops ρ) = false := by simpa using hw
      simp only [hw', Bool.false_eq_true, if_false] at hp
      cases hk : kdOf ks i with
      | pure =>
        simp only [hk, Bool.and_eq_true] at hB1
        exact uP undef hB1.1 hB1.2 (.inr ⟨hw', rfl⟩) hp
      | read =>
        simp only [hk, Bool.and_eq_true] at hB1
        exact uR undef hB1.1.1 hB1.1.2 hB1.2 (.inr ⟨hw', rfl⟩) hp
      | stay =>
        simp only [hk, Bool.and_eq_true] at hB1
        exact uS undef hB1.1.1 hB1.1.2 hB1.2 (.inr ⟨hw', rfl⟩) hp
      | ext => simp only [hk, beq_iff_eq] at hB1; exact lone hB1
      | tame => simp only [hk, beq_iff_eq] at hB1; exact lone hB1
      | wild => simp only [hk, beq_iff_eq] at hB1; exact lone hB1
theorem hAny_of_tree {P : Program} {ops : Array Oper} {ks : List Kd} {T : Heap → Heap → Prop} {Q : Regs → Heap → Prop} (hT : Fit T) (hs : Region.noSelect ops = true) :
    ∀ (t : PT) (f : Nat) (l : Array Bool) (ρ : Regs) (h : Heap), Shut ops l → treeB ops (ancs ops.toList []) ks f t l = true → HTree P ops ks T Q t ρ h → HAny P ops (fun i => (kdOf ks i).ok T) Q f l ρ h := by
  intro t
  induction t with
  | done =>
    intro f l ρ h hc hB hp
    have hr : Region.ready .any ops l = [] := by cases f <;> simpa [treeB] using hB
    cases f with
    | zero => exact ⟨hr, hp⟩
    | succ f => exact ⟨fun _ => hp, fun i hi => by rw [hr] at hi; cases hi⟩
  | one i t ih =>
    intro f l ρ h hc hB hp
    cases f with
    | zero => simp [treeB] at hB
    | succ f =>
      simp only [treeB, Bool.and_eq_true] at hB
      exact hAny_step hT hs hc hB.1 (fun hi ρ' h' hn => ih f _ ρ' h' (hc.set hi) hB.2 hn) hp
  | fork is t ih =>
    intro f l ρ h hc hB hp
    cases f with
    | zero => simp [treeB] at hB
    | succ f =>
      simp only [treeB, Bool.and_eq_true, beq_iff_eq, List.all_eq_true] at hB
      obtain ⟨⟨hne, hB⟩, hall⟩ := hB
      replace hB := And.intro hB hall
      cases his : is with
      | nil =>
        rw [his] at hne; simp at hne
      | cons i0 is' =>
        refine ⟨fun hr => (by rw [hB.1, his] at hr; cases hr), fun i hi => ?_⟩
        have hi' := hi
        rw [hB.1] at hi'
        exact hOp_mono (fun ρ' h' hn => ih i f _ ρ' h' (hc.set hi) (hB.2 i hi') hn) (hOp_of_one hT (hp i hi'))
def regT (n : Nat) (ops : Array Oper) (ks : List Kd) (t : PT) : Bool :=
  Region.noSelect ops && ops.all (dstB n) && treeB ops (ancs ops.toList []) ks ops.size t (Array.replicate ops.size false)
theorem hx_tree {m : Mo} {P : Program} {n : Nat} {Q : Exit → Regs → Heap → Prop} {ρ : Regs} {h : Heap} {id : Nat} {l : List Oper} (hmix : P.follows .mixedOrders = true) (T : Heap → Heap → Prop) (hT : Fit T) (ks : List Kd) (t : PT)
    (hB : regT n l.toArray ks t = true) (hp : HTree P l.toArray ks T (Q .normal) t ρ h) : HX m P n (.region id l.toArray true) Q ρ h := by
  intro N a w s hm hw
  simp only [regT, Bool.and_eq_true] at hB
  obtain ⟨⟨h1, h2⟩, h4⟩ := hB
  have hd : ∀ (i : Nat) (o : Oper), (l.toArray)[i]? = some o → dstB n o = true := fun i o ho => Array.all_eq_true_iff_forall_mem.1 h2 o (Array.mem_of_getElem? ho)
  refine wpIn_mono (wpIn_region_any hmix (wpAny_of_hAny (kd := fun i => (kdOf ks i).ok T) (Q := Q .normal) (w0 := w) hd _ _ ρ h a _ s hm hw ⟨rfl, rfl, rfl, Nat.le_succ _, HG.refl _⟩ ?_)) fun _ _ _ ⟨he, g1, ρ', g2, g3, g4⟩ => ⟨g1, ρ', g2, g3, by rw [he]; exact g4⟩
  refine hAny_of_tree hT h1 t _ _ ρ h (fun j o _ hl => ?_) h4 hp
  have : (Array.replicate l.toArray.size false).getD j false = false := by
    rcases Nat.lt_or_ge j l.toArray.size with h | h <;> simp [Array.getD, h]
  rw [this] at hl; cases hl
section
variable {P : Program} {ops : Array Oper} {ks : List Kd} {T : Heap → Heap → Prop} {Q : Regs → Heap → Prop} {i : Nat} {t : PT} {ρ : Regs} {h : Heap} {o : Oper}
theorem ht_done (hq : Q ρ h) : HTree P ops ks T Q .done ρ h := hq
theorem ho_pure {C : Regs → Heap → Prop} (ho : ops[i]? = some o) (hw : Region.wanted o (yl ops ρ) = true) (hk : kdOf ks i = .pure) (v : Value) (hv : ∀ h', HVal P ρ o h' v) (hn : C (updo ρ o.dst v) h) : HOne P ops ks T C i ρ h := by
  simp only [HOne, ho, hw, if_true, hk]; exact ⟨v, hv, hn⟩
theorem ho_stay {C : Regs → Heap → Prop} (ho : ops[i]? = some o) (hw : Region.wanted o (yl ops ρ) = true) (hk : kdOf ks i = .stay) (v : Value) (hv : ∀ h', T h h' → HVal P ρ o h' v) (hn : C (updo ρ o.dst v) h) : HOne P ops ks T C i ρ h := by
  simp only [HOne, ho, hw, if_true, hk]; exact ⟨v, hv, hn⟩
theorem ho_tame {C : Regs → Heap → Prop} (ho : ops[i]? = some o) (hw : Region.wanted o (yl ops ρ) = true) (hk : kdOf ks i = .tame) (hs : HStep P ρ o h fun v h' => T h h' ∧ C (updo ρ o.dst v) h') : HOne P ops ks T C i ρ h := by
  simp only [HOne, ho, hw, if_true, hk]; exact hs
theorem ho_ext {C : Regs → Heap → Prop} (ho : ops[i]? = some o) (hw : Region.wanted o (yl ops ρ) = true) (hk : kdOf ks i = .ext) (hs : HStep P ρ o h fun v h' => Ext h h' ∧ C (updo ρ o.dst v) h') : HOne P ops ks T C i ρ h := by
  simp only [HOne, ho, hw, if_true, hk]; exact hs
theorem ho_wild {C : Regs → Heap → Prop} (ho : ops[i]? = some o) (hw : Region.wanted o (yl ops ρ) = true) (hk : kdOf ks i = .wild) (hs : HStep P ρ o h fun v h' => C (updo ρ o.dst v) h') : HOne P ops ks T C i ρ h := by
  simp only [HOne, ho, hw, if_true, hk]; exact hs.mono fun v h' hn => ⟨trivial, hn⟩
theorem ht_one (hp : HOne P ops ks T (HTree P ops ks T Q t) i ρ h) : HTree P ops ks T Q (.one i t) ρ h := hp
theorem ht_fork2 {i j : Nat} {u : PT} {f : Nat → PT} (hi : f i = t) (hj : f j = u) (h1 : HOne P ops ks T (HTree P ops ks T Q t) i ρ h) (h2 : HOne P ops ks T (HTree P ops ks T Q u) j ρ h) : HTree P ops ks T Q (.fork [i, j] f) ρ h := by
  intro k hk
  simp only [List.mem_cons, List.not_mem_nil, or_false] at hk
  rcases hk with rfl | rfl
  · rw [hi]; exact h1
  · rw [hj]; exact h2
end
end Go.Proofs.Ytcdpapdefdnknaa
namespace Go.Proofs.Ytcdpapdefdnknaa
open Go
open Go.Proofs.Ytcdpapdefdnknaa renaming hl_val → lv, hl_step → lp, hl_nil → ln, hl_yes → ly, hl_no → lo, hx_seq → xs, hx_region → xr, hx_cond → xc, hx_block → xb, hx_loopT → xl, hx_cut → xk, hx_has → xh, hx_skip → xi, hx_ret → xt, hx_exit → xe, seqQ_n → qn, seqQ_ret → qr, seqQ_exit → qe, blockQ_n → bn, blockQ_ret → br, blockQ_here → bh, hv_move → vm, hv_assign → va, hv_arith → vr, hv_load → vl, hv_loads → vL, hv_field → vf, hv_index → vi, hp_pure → pp, hp_read → pr, hp_no → pn, has_cons → hc, has_nil → hn, hcells_cons → cc, hcells_nil → cn, rowcell → rc, hs_call → sc
set_option maxRecDepth 100000
set_option maxHeartbeats 4000000
theorem TyTA.agg3 : aggB Try.prog 3 = some false := by kernel_rfl
theorem TyTA.agg31 : aggB Try.prog 31 = some false := by kernel_rfl
theorem TyTA.agg32 : aggB Try.prog 32 = some false := by kernel_rfl
theorem TyTA.agg36 : aggB Try.prog 36 = some true := by kernel_rfl
theorem TyTA.agg43 : aggB Try.prog 43 = some true := by kernel_rfl
theorem TyTA.agg5 : aggB Try.prog 5 = some false := by kernel_rfl
theorem TyTA.agg53 : aggB Try.prog 53 = some false := by kernel_rfl
theorem TyTA.agg9 : aggB Try.prog 9 = some false := by kernel_rfl
theorem TyTA.cb27 : CallB Try.prog 27 := fun _ _ => Try.call27 _ _
theorem TyTA.cb51 : CallB Try.prog 51 := fun _ _ => Try.call51 _ _
theorem TyTA.cb58 : CallB Try.prog 58 := fun _ _ => Try.call58 _ _
theorem TyTA.cb65 : CallB Try.prog 65 := fun _ _ => Try.call65 _ _
theorem TyTA.cb68 : CallB Try.prog 68 := fun _ _ => Try.call68 _ _
theorem TyTA.cb76 : CallB Try.prog 76 := fun _ _ => Try.call76 _ _
theorem TyTA.el22 : elB Try.prog 22 = some 2 := by kernel_rfl
theorem TyTA.el32 : elB Try.prog 32 = some 4 := by kernel_rfl
theorem TyTA.el39 : elB Try.prog 39 = some 2 := by kernel_rfl
theorem TyTA.el53 : elB Try.prog 53 = some 1 := by kernel_rfl
theorem TyTA.fld34_0 : fldB Try.prog 34 0 = some 0 := by kernel_rfl
theorem TyTA.fld34_1 : fldB Try.prog 34 1 = some 1 := by kernel_rfl
theorem TyTA.fld36_0 : fldB Try.prog 36 0 = some 0 := by kernel_rfl
theorem TyTA.fld36_1 : fldB Try.prog 36 1 = some 1 := by kernel_rfl
theorem TyTA.fld36_2 : fldB Try.prog 36 2 = some 2 := by kernel_rfl
theorem TyTA.fld36_3 : fldB Try.prog 36 3 = some 3 := by kernel_rfl
theorem TyTA.fld56_0 : fldB Try.prog 56 0 = some 0 := by kernel_rfl
theorem TyTA.fld56_1 : fldB Try.prog 56 1 = some 1 := by kernel_rfl
theorem TyTA.fld56_2 : fldB Try.prog 56 2 = some 2 := by kernel_rfl
theorem TyTA.fld80_1 : fldB Try.prog 80 1 = some 1 := by kernel_rfl
theorem TyTA.mixed : Try.prog.follows .mixedOrders = true := by kernel_rfl
theorem TyTA.se36 : seB Try.prog 36 = some [(3, 0), (31, 1), (9, 2), (9, 3)] := by kernel_rfl
theorem TyTA.se43 : seB Try.prog 43 = some [(9, 0), (9, 1)] := by kernel_rfl
theorem TyTA.sz36 : szB Try.prog 36 = some 4 := by kernel_rfl
theorem TyTA.sz43 : szB Try.prog 43 = some 2 := by kernel_rfl
theorem TyTA.u115 : Try.prog.underlying 115 = some (.int .u64) := by kernel_rfl
theorem TyTA.u22 : Try.prog.underlying 22 = some (.slice 34) := by kernel_rfl
theorem TyTA.u3 : Try.prog.underlying 3 = some (.int .i64) := by kernel_rfl
theorem TyTA.u31 : Try.prog.underlying 31 = some (.int .u64) := by kernel_rfl
theorem TyTA.u32 : Try.prog.underlying 32 = some (.slice 36) := by kernel_rfl
theorem TyTA.u39 : Try.prog.underlying 39 = some (.slice 43) := by kernel_rfl
theorem TyTA.u5 : Try.prog.underlying 5 = some (.int .u8) := by kernel_rfl
theorem TyTA.u9 : Try.prog.underlying 9 = some (.string) := by kernel_rfl
theorem TyTA.up47 : Try.prog.underlying 47 = some (.pointer 80) := by kernel_rfl
theorem TyTA.z36 : zeroB Try.prog 36 (.agg #[(.int .i64 0), (.int .u64 0), (.string ByteArray.empty), (.string ByteArray.empty)]) := by unfold zeroB; kernel_rfl
theorem ext_pushed_f43_sh {h h1 : Heap} {o : Obj} (e : h1 = Array.push h o) : Ext h h1 := by rw [e]; exact Ext.push _ _
theorem f26_sh (a0 : Int) (a5 : Int) (a1 : ByteArray) (a2 : ByteArray) (h : Heap) (R : Value → Heap → Prop)
  (H : ((((a0 != 1) && ((a0 != 2) || (!decide (a2 = ByteArray.empty)))) = true → (∀ (h1 : Heap), Ext h h1 → R (.bool false) h1)) ∧ (((a0 != 1) && ((a0 != 2) || (!decide (a2 = ByteArray.empty)))) = false → (∀ (h1 : Heap), Ext h h1 → R (.bool ((decide ((a1.size : Int) ≥ 1)) && (decide ((a1.size : Int) ≤ 255)))) h1)))) :
  HC Try.prog 26 #[(.agg #[(.int .i64 a0), (.int .u64 a5), (.string a1), (.string a2)])] h R := by
 refine hc_of (args := [(.agg #[(.int .i64 a0), (.int .u64 a5), (.string a1), (.string a2)])]) Try.func26 rfl Try.ntmps26 (Nat.le_of_ble_eq_true rfl) ?_
 refine xs (xr ?_)
 refine lp rfl rfl (hn_box (v := (.agg #[(.int .i64 a0), (.int .u64 a5), (.string a1), (.string a2)])) rfl ?_)
 intro r h1 a9 b1
 have b0 := ext_pushed_f43_sh b1
 have b2 : Array.size h ≤ r := Nat.le_of_eq (Eq.symm a9)
 have a7 : h1[r]? = some (.cells #[(.int .i64 a0), (.int .u64 a5), (.string a1), (.string a2)] 36 (0, 0)) := by rw [b1]; exact push_new a9
 refine lv rfl rfl (va rfl) ?_
 refine ln (qn (xs ?_))
 refine xk (fun ρ h' => h1 = h' ∧ Has ρ [(1, (ptr r 0)), (15, (.bool ((a0 != 1) && ((a0 != 2) || (!decide (a2 = ByteArray.empty))))))]) ?_ ?_
 ·refine xr ?_
  refine lv rfl rfl (v := (ptr r 0)) (vf TyTA.fld36_0 (b := r) (o := 0) rfl) (lv rfl rfl (vl TyTA.agg3 rfl (rc a7 rfl)) (lv rfl rfl (vr rfl rfl rfl) (lv rfl rfl (vm rfl) ?_)))
  rcases bool_or (a0 != 1) with a3 | a3
  ·refine ly (wanted_y rfl rfl rfl a3) rfl (HStep.of_val (v := (ptr r 0)) (vf TyTA.fld36_0 (b := r) (o := 0) rfl) ?_)
   refine ly (wanted_y rfl rfl rfl a3) rfl (HStep.of_val (v := (.int .i64 a0)) (vl TyTA.agg3 rfl (rc a7 rfl)) ?_)
   refine ly (wanted_y rfl rfl rfl a3) rfl (HStep.of_val (v := (.bool (a0 != 2))) (vr rfl rfl rfl) ?_)
   refine ly (wanted_y rfl rfl rfl a3) rfl (HStep.of_val (v := (.bool (a0 != 2))) (vm rfl) ?_)
   rcases bool_or (a0 != 2) with a6 | a6
   ·refine lo (wanted_n rfl rfl rfl a6) rfl ?_
    refine lo (wanted_n rfl rfl rfl a6) rfl ?_
    refine lo (wanted_n rfl rfl rfl a6) rfl ?_
    refine ly (wanted_y rfl rfl rfl a3) rfl (HStep.of_val (v := (.bool true)) (hv_pick_t rfl a6 rfl) ?_)
    refine lv rfl rfl (v := (.bool true)) (hv_pick_t rfl a3 rfl) ?_
    refine ln (qn ?_)
    exact ⟨rfl, (hc rfl (hc (show ((.bool true) : Value) = (.bool ((a0 != 1) && ((a0 != 2) || (!decide (a2 = ByteArray.empty))))) from (by first | rfl | ((try rw [a3]); (try rw [a6]); all_goals first | rfl | (simp only [Bool.true_or, Bool.or_true, Bool.false_or, Bool.or_false, Bool.true_and, Bool.and_true, Bool.false_and, Bool.and_false, Bool.not_true, Bool.not_false, Bool.cond_true, Bool.cond_false]; done)) | simp [a3, a6])) hn))⟩
   ·refine ly (wanted_y rfl rfl rfl a6) rfl (HStep.of_val (v := (ptr r 3)) (vf TyTA.fld36_3 (b := r) (o := 0) rfl) ?_)
    refine ly (wanted_y rfl rfl rfl a6) rfl (HStep.of_val (v := (.string a2)) (vl TyTA.agg9 rfl (rc a7 rfl)) ?_)
    refine ly (wanted_y rfl rfl rfl a6) rfl (HStep.of_val (v := (.bool (!decide (a2 = ByteArray.empty)))) (hv_str rfl rfl rfl) ?_)
    refine ly (wanted_y rfl rfl rfl a3) rfl (HStep.of_val (v := (.bool (!decide (a2 = ByteArray.empty)))) (hv_pick_f rfl a6 rfl) ?_)
    refine lv rfl rfl (v := (.bool (!decide (a2 = ByteArray.empty)))) (hv_pick_t rfl a3 rfl) ?_
    refine ln (qn ?_)
    exact ⟨rfl, (hc rfl (hc (show ((.bool (!decide (a2 = ByteArray.empty))) : Value) = (.bool ((a0 != 1) && ((a0 != 2) || (!decide (a2 = ByteArray.empty))))) from (by first | rfl | ((try rw [a3]); (try rw [a6]); all_goals first | rfl | (simp only [Bool.true_or, Bool.or_true, Bool.false_or, Bool.or_false, Bool.true_and, Bool.and_true, Bool.false_and, Bool.and_false, Bool.not_true, Bool.not_false, Bool.cond_true, Bool.cond_false]; done)) | simp [a3, a6])) hn))⟩
  ·refine lo (wanted_n rfl rfl rfl a3) rfl ?_
   refine lo (wanted_n rfl rfl rfl a3) rfl ?_
   refine lo (wanted_n rfl rfl rfl a3) rfl ?_
   refine lo (wanted_n rfl rfl rfl a3) rfl ?_
   refine lo (wanted_u rfl rfl rfl) rfl ?_
   refine lo (wanted_u rfl rfl rfl) rfl ?_
   refine lo (wanted_u rfl rfl rfl) rfl ?_
   refine lo (wanted_n rfl rfl rfl a3) rfl ?_
   refine lv rfl rfl (v := (.bool false)) (hv_pick_f rfl a3 rfl) ?_
   refine ln (qn ?_)
   exact ⟨rfl, (hc rfl (hc (show ((.bool false) : Value) = (.bool ((a0 != 1) && ((a0 != 2) || (!decide (a2 = ByteArray.empty))))) from (by first | rfl | ((try rw [a3]); all_goals first | rfl | (simp only [Bool.true_or, Bool.or_true, Bool.false_or, Bool.or_false, Bool.true_and, Bool.and_true, Bool.false_and, Bool.and_false, Bool.not_true, Bool.not_false, Bool.cond_true, Bool.cond_false]; done)) | simp [a3])) hn))⟩
 ·rintro ρ _ ⟨rfl, hH⟩
  refine xh _ hH ?_
  refine xc (b := ((a0 != 1) && ((a0 != 2) || (!decide (a2 = ByteArray.empty))))) rfl (fun a8 => ?_) (fun a8 => ?_)
  ·replace H := H.1 a8
   refine xs (xr ?_)
   refine lv rfl rfl (va rfl) ?_
   refine ln (qn (xt (qr ?_)))
   replace H := H h1 b0
   exact endQ_ret _ (res_one Try.results26 (rv_tmp rfl)) H
  ·replace H := H.2 a8
   refine xi (qn ?_)
   refine xk (fun ρ h' => h1 = h' ∧ Has ρ [(2, (.bool ((decide ((a1.size : Int) ≥ 1)) && (decide ((a1.size : Int) ≤ 255)))))]) ?_ ?_
   ·refine xr ?_
    refine lv rfl rfl (v := (ptr r 2)) (vf TyTA.fld36_2 (b := r) (o := 0) rfl) (lv rfl rfl (vl TyTA.agg9 rfl (rc a7 rfl)) (lv rfl rfl (v := (.int .i64 (a1.size : Int))) (hv_lenStr TyTA.u9 rfl) (lv rfl rfl (vr rfl rfl rfl) (lv rfl rfl (vm rfl) ?_))))
    rcases bool_or (decide ((a1.size : Int) ≥ 1)) with a4 | a4
    ·refine ly (wanted_y rfl rfl rfl a4) rfl (HStep.of_val (v := (ptr r 2)) (vf TyTA.fld36_2 (b := r) (o := 0) rfl) ?_)
     refine ly (wanted_y rfl rfl rfl a4) rfl (HStep.of_val (v := (.string a1)) (vl TyTA.agg9 rfl (rc a7 rfl)) ?_)
     refine ly (wanted_y rfl rfl rfl a4) rfl (HStep.of_val (v := (.int .i64 (a1.size : Int))) (hv_lenStr TyTA.u9 rfl) ?_)
     refine ly (wanted_y rfl rfl rfl a4) rfl (HStep.of_val (v := (.bool (decide ((a1.size : Int) ≤ 255)))) (vr rfl rfl rfl) ?_)
     refine lv rfl rfl (v := (.bool (decide ((a1.size : Int) ≤ 255)))) (hv_pick_t rfl a4 rfl) (lv rfl rfl (va rfl) ?_)
     refine ln (qn ?_)
     exact ⟨rfl, (hc (show ((.bool (decide ((a1.size : Int) ≤ 255))) : Value) = (.bool ((decide ((a1.size : Int) ≥ 1)) && (decide ((a1.size : Int) ≤ 255)))) from (by first | rfl | ((try rw [a4]); all_goals first | rfl | (simp only [Bool.true_or, Bool.or_true, Bool.false_or, Bool.or_false, Bool.true_and, Bool.and_true, Bool.false_and, Bool.and_false, Bool.not_true, Bool.not_false, Bool.cond_true, Bool.cond_false]; done)) | simp [a4])) hn)⟩
    ·refine lo (wanted_n rfl rfl rfl a4) rfl ?_
     refine lo (wanted_n rfl rfl rfl a4) rfl ?_
     refine lo (wanted_n rfl rfl rfl a4) rfl ?_
     refine lo (wanted_n rfl rfl rfl a4) rfl ?_
     refine lv rfl rfl (v := (.bool false)) (hv_pick_f rfl a4 rfl) (lv rfl rfl (va rfl) ?_)
     refine ln (qn ?_)
     exact ⟨rfl, (hc (show ((.bool false) : Value) = (.bool ((decide ((a1.size : Int) ≥ 1)) && (decide ((a1.size : Int) ≤ 255)))) from (by first | rfl | ((try rw [a4]); all_goals first | rfl | (simp only [Bool.true_or, Bool.or_true, Bool.false_or, Bool.or_false, Bool.true_and, Bool.and_true, Bool.false_and, Bool.and_false, Bool.not_true, Bool.not_false, Bool.cond_true, Bool.cond_false]; done)) | simp [a4])) hn)⟩
   ·rintro ρ _ ⟨rfl, hH⟩
    refine xh _ hH ?_
    refine xt ?_
    replace H := H h1 b0
    exact endQ_ret _ (res_one Try.results26 (rv_tmp rfl)) H
theorem f37_sh (a1 : Nat) (a0 : Nat) (h : Heap) (R : Value → Heap → Prop)
  (H : (∃ x : Int, hcell h a1 (a0 + 1) = some (.int .i64 x) ∧ R (.bool (decide (x > 0))) h)) :
  HC Try.prog 37 #[(ptr a1 a0)] h R := by
 refine hc_of (args := [(ptr a1 a0)]) Try.func37 rfl Try.ntmps37 (Nat.le_of_ble_eq_true rfl) ?_
 refine xs (xr ?_)
 refine lv rfl rfl (va rfl) ?_
 refine ln (qn (xs (xr ?_)))
 refine lv rfl rfl (vm rfl) (lv rfl rfl (v := (.bool true)) (hv_ptrNil TyTA.up47 rfl rfl) (lv rfl rfl (vm rfl) ?_))
 refine ly (wanted_y rfl rfl (c := true) rfl rfl) rfl (HStep.of_val (v := (ptr a1 a0)) (vm rfl) ?_)
 refine ly (wanted_y rfl rfl (c := true) rfl rfl) rfl (HStep.of_val (v := (ptr a1 a0)) (hv_nil rfl) ?_)
 refine ly (wanted_y rfl rfl (c := true) rfl rfl) rfl (HStep.of_val (v := (ptr a1 (a0 + 1))) (vf TyTA.fld80_1 (b := a1) (o := a0) rfl) ?_)
 obtain ⟨x, a2, H⟩ := H
 refine ly (wanted_y rfl rfl (c := true) rfl rfl) rfl (HStep.of_val (v := (.int .i64 x)) (vl TyTA.agg3 rfl a2) ?_)
 refine ly (wanted_y rfl rfl (c := true) rfl rfl) rfl (HStep.of_val (v := (.bool (decide (x > 0)))) (vr rfl rfl rfl) ?_)
 refine lv rfl rfl (v := (.bool (decide (x > 0)))) (hv_pick (t := true) rfl rfl) (lv rfl rfl (va rfl) ?_)
 refine ln (qn (xt ?_))
 exact endQ_ret _ (res_one Try.results37 (rv_tmp rfl)) H
theorem f20_sh (a : Option Addr) (a7 : Nat) (b4 : Nat) (b : Option Addr) (a9 : Nat) (b5 : Nat) (h : Heap) (R : Value → Heap → Prop)
  (H : ((((a7 : Int) != (a9 : Int)) = true → R (.bool false) h) ∧ (((a7 : Int) != (a9 : Int)) = false → (∃ (I2 : Int → Prop) (b7 : Int → Nat), I2 0 ∧ (∀ (i : Int), I2 i → (((decide (i < (a7 : Int))) = true → (∃ b3 b2 : Nat, a = some ⟨b3, b2, none⟩ ∧ (0 : Int) ≤ i ∧ i < (a7 : Int) ∧ (∃ a6 a2 : Int, ∃ a8 a5 : ByteArray, hcell h b3 (b2 + (Int.toNat i) * 4) = some (.int .i64 a6) ∧ hcell h b3 ((b2 + (Int.toNat i) * 4) + 1) = some (.int .u64 a2) ∧ hcell h b3 ((b2 + (Int.toNat i) * 4) + 2) = some (.string a8) ∧ hcell h b3 ((b2 + (Int.toNat i) * 4) + 3) = some (.string a5) ∧ (∃ b0 b1 : Nat, b = some ⟨b0, b1, none⟩ ∧ (0 : Int) ≤ i ∧ i < (a9 : Int) ∧ (∃ a3 a0 : Int, ∃ a4 a1 : ByteArray, hcell h b0 (b1 + (Int.toNat i) * 4) = some (.int .i64 a3) ∧ hcell h b0 ((b1 + (Int.toNat i) * 4) + 1) = some (.int .u64 a0) ∧ hcell h b0 ((b1 + (Int.toNat i) * 4) + 2) = some (.string a4) ∧ hcell h b0 ((b1 + (Int.toNat i) * 4) + 3) = some (.string a1) ∧ (((!((a6 == a3 && (a2 == a0 && (a8 == a4 && (a5 == a1 && true)))))) = true → R (.bool false) h) ∧ ((!((a6 == a3 && (a2 == a0 && (a8 == a4 && (a5 == a1 && true)))))) = false → (I2 (IntKind.i64.wrap (i + 1)) ∧ b7 (IntKind.i64.wrap (i + 1)) < b7 i)))))))) ∧ ((decide (i < (a7 : Int))) = false → R (.bool true) h))))))) :
  HC Try.prog 20 #[(.slice a a7 b4), (.slice b a9 b5)] h R := by
 refine hc_of (args := [(.slice a a7 b4), (.slice b a9 b5)]) Try.func20 rfl Try.ntmps20 (Nat.le_of_ble_eq_true rfl) ?_
 refine xs (xr ?_)
 refine lv rfl rfl (va rfl) ?_
 refine ln (qn (xs (xs (xr ?_))))
 refine lv rfl rfl (vm rfl) (lv rfl rfl (v := (.int .i64 (a7 : Int))) (hv_len (n := a7) TyTA.u32 rfl) (lv rfl rfl (vm rfl) (lv rfl rfl (v := (.int .i64 (a9 : Int))) (hv_len (n := a9) TyTA.u32 rfl) (lv rfl rfl (vr rfl rfl rfl) ?_))))
 refine ln (qn ?_)
 refine xc (b := (a7 : Int) != (a9 : Int)) rfl (fun c0 => ?_) (fun c0 => ?_)
 ·replace H := H.1 c0
  refine xs (xr ?_)
  refine lv rfl rfl (va rfl) ?_
  refine ln (qn (xt (qr ?_)))
  exact endQ_ret _ (res_one Try.results20 (rv_tmp rfl)) H
 ·replace H := H.2 c0
  refine xi (qn (xs (xs (xr ?_))))
  refine lv rfl rfl (va rfl) ?_
  refine ln (qn (xb ?_))
  obtain ⟨I2, b7, d5, d4⟩ := H
  refine xl (σ := Int) (fun s => [(0, (.slice a a7 b4)), (1, (.slice b a9 b5)), (5, (.int .i64 s))]) (fun s h' => I2 s ∧ h = h') (fun s _ => b7 s) 0 ⟨d5, rfl⟩ (hc rfl (hc rfl (hc rfl hn))) ?_
  rintro i ρ _ ⟨d2, rfl⟩
  have H := d4 i d2
  refine xs (xs (xr ?_))
  refine lv rfl rfl (vm rfl) (lv rfl rfl (vm rfl) (lv rfl rfl (v := (.int .i64 (a7 : Int))) (hv_len (n := a7) TyTA.u32 rfl) (lv rfl rfl (vr rfl rfl rfl) ?_)))
  refine ln (qn ?_)
  refine xc (b := decide (i < (a7 : Int))) rfl (fun b8 => ?_) (fun b8 => ?_)
  ·replace H := H.1 b8
   refine xi (qn (xs (xb (xs ?_))))
   refine hx_draw TyTA.mixed [.pure, .pure, .pure, .read, .pure, .pure, .pure, .read, .pure] [0, 1, 2, 3, 4, 5, 6, 7, 8] (by kernel_rfl) ?_
   refine pp (i := 0) rfl (wanted_0 rfl) rfl (.slice a a7 b4) (fun _ => vm rfl) ?_
   refine pp (i := 1) rfl (wanted_0 rfl) rfl (.int .i64 i) (fun _ => vm rfl) ?_
   obtain ⟨b3, b2, b9, d3, d1, Hq⟩ := H
   subst b9
   have H := Hq; clear Hq
   refine pp (i := 2) rfl (wanted_0 rfl) rfl (ptr b3 (b2 + (Int.toNat i) * 4)) (fun _ => vi TyTA.el32 rfl rfl d3 d1) ?_
   obtain ⟨a6, a2, a8, a5, d0, c1, c5, c3, H⟩ := H
   refine pr (i := 3) rfl (wanted_0 rfl) rfl (.agg #[(.int .i64 a6), (.int .u64 a2), (.string a8), (.string a5)]) (fun _ he => vL (vs := [(.int .i64 a6), (.int .u64 a2), (.string a8), (.string a5)]) TyTA.agg36 TyTA.sz36 rfl (cc (Ext.cell he d0) (cc (Ext.cell he c1) (cc (Ext.cell he c5) (cc (Ext.cell he c3) cn))))) ?_
   refine pp (i := 4) rfl (wanted_0 rfl) rfl (.slice b a9 b5) (fun _ => vm rfl) ?_
   refine pp (i := 5) rfl (wanted_0 rfl) rfl (.int .i64 i) (fun _ => vm rfl) ?_
   obtain ⟨b0, b1, b9, c7, c8, Hq⟩ := H
   subst b9
   have H := Hq; clear Hq
   refine pp (i := 6) rfl (wanted_0 rfl) rfl (ptr b0 (b1 + (Int.toNat i) * 4)) (fun _ => vi TyTA.el32 rfl rfl c7 c8) ?_
   obtain ⟨a3, a0, a4, a1, c6, c4, c2, c9, H⟩ := H
   refine pr (i := 7) rfl (wanted_0 rfl) rfl (.agg #[(.int .i64 a3), (.int .u64 a0), (.string a4), (.string a1)]) (fun _ he => vL (vs := [(.int .i64 a3), (.int .u64 a0), (.string a4), (.string a1)]) TyTA.agg36 TyTA.sz36 rfl (cc (Ext.cell he c6) (cc (Ext.cell he c4) (cc (Ext.cell he c2) (cc (Ext.cell he c9) cn))))) ?_
   refine pp (i := 8) rfl (wanted_0 rfl) rfl (.bool (!((a6 == a3 && (a2 == a0 && (a8 == a4 && (a5 == a1 && true))))))) (fun _ => hv_structEq (xs := [(.int .i64 a6), (.int .u64 a2), (.string a8), (.string a5)]) (ys := [(.int .i64 a3), (.int .u64 a0), (.string a4), (.string a1)]) (b := (a6 == a3 && (a2 == a0 && (a8 == a4 && (a5 == a1 && true))))) TyTA.se36 rfl rfl (by kernel_rfl) rfl) ?_
   refine hp_nil ?_
   refine qn ?_
   refine xc (b := !((a6 == a3 && (a2 == a0 && (a8 == a4 && (a5 == a1 && true)))))) rfl (fun b6 => ?_) (fun b6 => ?_)
   ·replace H := H.1 b6
    refine xs (xr ?_)
    refine lv rfl rfl (va rfl) ?_
    refine ln (qn (xt (br (qr (qr (br (qr ?_)))))))
    exact endQ_ret _ (res_one Try.results20 (rv_tmp rfl)) H
   ·replace H := H.2 b6
    refine xi (bn (qn (xr ?_)))
    refine lv rfl rfl (vm rfl) (lv rfl rfl (vr rfl rfl rfl) (lv rfl rfl (va rfl) ?_))
    refine ln (qn ?_)
    exact ⟨IntKind.i64.wrap (i + 1), ⟨⟨H.1, rfl⟩, H.2⟩, (hc rfl (hc rfl (hc rfl hn)))⟩
  ·replace H := H.2 b8
   refine xe (qe (qe (bh (qn (xs (xr ?_))))))
   refine lv rfl rfl (va rfl) ?_
   refine ln (qn (xt ?_))
   exact endQ_ret _ (res_one Try.results20 (rv_tmp rfl)) H
theorem f24_sh (a : Option Addr) (a3 : Nat) (a6 : Nat) (b : Option Addr) (a5 : Nat) (b1 : Nat) (h : Heap) (R : Value → Heap → Prop)
  (H : ((((a3 : Int) != (a5 : Int)) = true → R (.bool false) h) ∧ (((a3 : Int) != (a5 : Int)) = false → (∃ (I2 : Int → Prop) (b3 : Int → Nat), I2 0 ∧ (∀ (i : Int), I2 i → (((decide (i < (a3 : Int))) = true → (∃ b0 a9 : Nat, a = some ⟨b0, a9, none⟩ ∧ (0 : Int) ≤ i ∧ i < (a3 : Int) ∧ (∃ a4 a2 : ByteArray, hcell h b0 (a9 + (Int.toNat i) * 2) = some (.string a4) ∧ hcell h b0 ((a9 + (Int.toNat i) * 2) + 1) = some (.string a2) ∧ (∃ a7 a8 : Nat, b = some ⟨a7, a8, none⟩ ∧ (0 : Int) ≤ i ∧ i < (a5 : Int) ∧ (∃ a1 a0 : ByteArray, hcell h a7 (a8 + (Int.toNat i) * 2) = some (.string a1) ∧ hcell h a7 ((a8 + (Int.toNat i) * 2) + 1) = some (.string a0) ∧ (((!((a4 == a1 && (a2 == a0 && true)))) = true → R (.bool false) h) ∧ ((!((a4 == a1 && (a2 == a0 && true)))) = false → (I2 (IntKind.i64.wrap (i + 1)) ∧ b3 (IntKind.i64.wrap (i + 1)) < b3 i)))))))) ∧ ((decide (i < (a3 : Int))) = false → R (.bool true) h))))))) :
  HC Try.prog 24 #[(.slice a a3 a6), (.slice b a5 b1)] h R := by
 refine hc_of (args := [(.slice a a3 a6), (.slice b a5 b1)]) Try.func24 rfl Try.ntmps24 (Nat.le_of_ble_eq_true rfl) ?_
 refine xs (xr ?_)
 refine lv rfl rfl (va rfl) ?_
 refine ln (qn (xs (xs (xr ?_))))
 refine lv rfl rfl (vm rfl) (lv rfl rfl (v := (.int .i64 (a3 : Int))) (hv_len (n := a3) TyTA.u39 rfl) (lv rfl rfl (vm rfl) (lv rfl rfl (v := (.int .i64 (a5 : Int))) (hv_len (n := a5) TyTA.u39 rfl) (lv rfl rfl (vr rfl rfl rfl) ?_))))
 refine ln (qn ?_)
 refine xc (b := (a3 : Int) != (a5 : Int)) rfl (fun b6 => ?_) (fun b6 => ?_)
 ·replace H := H.1 b6
  refine xs (xr ?_)
  refine lv rfl rfl (va rfl) ?_
  refine ln (qn (xt (qr ?_)))
  exact endQ_ret _ (res_one Try.results24 (rv_tmp rfl)) H
 ·replace H := H.2 b6
  refine xi (qn (xs (xs (xr ?_))))
  refine lv rfl rfl (va rfl) ?_
  refine ln (qn (xb ?_))
  obtain ⟨I2, b3, c7, c6⟩ := H
  refine xl (σ := Int) (fun s => [(0, (.slice a a3 a6)), (1, (.slice b a5 b1)), (5, (.int .i64 s))]) (fun s h' => I2 s ∧ h = h') (fun s _ => b3 s) 0 ⟨c7, rfl⟩ (hc rfl (hc rfl (hc rfl hn))) ?_
  rintro i ρ _ ⟨c4, rfl⟩
  have H := c6 i c4
  refine xs (xs (xr ?_))
  refine lv rfl rfl (vm rfl) (lv rfl rfl (vm rfl) (lv rfl rfl (v := (.int .i64 (a3 : Int))) (hv_len (n := a3) TyTA.u39 rfl) (lv rfl rfl (vr rfl rfl rfl) ?_)))
  refine ln (qn ?_)
  refine xc (b := decide (i < (a3 : Int))) rfl (fun b4 => ?_) (fun b4 => ?_)
  ·replace H := H.1 b4
   refine xi (qn (xs (xb (xs ?_))))
   refine hx_draw TyTA.mixed [.pure, .pure, .pure, .read, .pure, .pure, .pure, .read, .pure] [0, 1, 2, 3, 4, 5, 6, 7, 8] (by kernel_rfl) ?_
   refine pp (i := 0) rfl (wanted_0 rfl) rfl (.slice a a3 a6) (fun _ => vm rfl) ?_
   refine pp (i := 1) rfl (wanted_0 rfl) rfl (.int .i64 i) (fun _ => vm rfl) ?_
   obtain ⟨b0, a9, b5, c5, c3, Hq⟩ := H
   subst b5
   have H := Hq; clear Hq
   refine pp (i := 2) rfl (wanted_0 rfl) rfl (ptr b0 (a9 + (Int.toNat i) * 2)) (fun _ => vi TyTA.el39 rfl rfl c5 c3) ?_
   obtain ⟨a4, a2, c2, b7, H⟩ := H
   refine pr (i := 3) rfl (wanted_0 rfl) rfl (.agg #[(.string a4), (.string a2)]) (fun _ he => vL (vs := [(.string a4), (.string a2)]) TyTA.agg43 TyTA.sz43 rfl (cc (Ext.cell he c2) (cc (Ext.cell he b7) cn))) ?_
   refine pp (i := 4) rfl (wanted_0 rfl) rfl (.slice b a5 b1) (fun _ => vm rfl) ?_
   refine pp (i := 5) rfl (wanted_0 rfl) rfl (.int .i64 i) (fun _ => vm rfl) ?_
   obtain ⟨a7, a8, b5, c0, c1, Hq⟩ := H
   subst b5
   have H := Hq; clear Hq
   refine pp (i := 6) rfl (wanted_0 rfl) rfl (ptr a7 (a8 + (Int.toNat i) * 2)) (fun _ => vi TyTA.el39 rfl rfl c0 c1) ?_
   obtain ⟨a1, a0, b9, b8, H⟩ := H
   refine pr (i := 7) rfl (wanted_0 rfl) rfl (.agg #[(.string a1), (.string a0)]) (fun _ he => vL (vs := [(.string a1), (.string a0)]) TyTA.agg43 TyTA.sz43 rfl (cc (Ext.cell he b9) (cc (Ext.cell he b8) cn))) ?_
   refine pp (i := 8) rfl (wanted_0 rfl) rfl (.bool (!((a4 == a1 && (a2 == a0 && true))))) (fun _ => hv_structEq (xs := [(.string a4), (.string a2)]) (ys := [(.string a1), (.string a0)]) (b := (a4 == a1 && (a2 == a0 && true))) TyTA.se43 rfl rfl (by kernel_rfl) rfl) ?_
   refine hp_nil ?_
   refine qn ?_
   refine xc (b := !((a4 == a1 && (a2 == a0 && true)))) rfl (fun b2 => ?_) (fun b2 => ?_)
   ·replace H := H.1 b2
    refine xs (xr ?_)
    refine lv rfl rfl (va rfl) ?_
    refine ln (qn (xt (br (qr (qr (br (qr ?_)))))))
    exact endQ_ret _ (res_one Try.results24 (rv_tmp rfl)) H
   ·replace H := H.2 b2
    refine xi (bn (qn (xr ?_)))
    refine lv rfl rfl (vm rfl) (lv rfl rfl (vr rfl rfl rfl) (lv rfl rfl (va rfl) ?_))
    refine ln (qn ?_)
    exact ⟨IntKind.i64.wrap (i + 1), ⟨⟨H.1, rfl⟩, H.2⟩, (hc rfl (hc rfl (hc rfl hn)))⟩
  ·replace H := H.2 b4
   refine xe (qe (qe (bh (qn (xs (xr ?_))))))
   refine lv rfl rfl (va rfl) ?_
   refine ln (qn (xt ?_))
   exact endQ_ret _ (res_one Try.results24 (rv_tmp rfl)) H
theorem f16_sh (l : Option Addr) (a4 : Nat) (a7 : Nat) (a2 : ByteArray) (a0 : ByteArray) (h : Heap) (R : Value → Heap → Prop)
  (H : (∃ (I6 : Int → Prop) (b0 : Int → Nat), I6 0 ∧ (∀ (i : Int), I6 i → (((decide (i < (a4 : Int))) = true → (∃ a6 a5 : Nat, l = some ⟨a6, a5, none⟩ ∧ (0 : Int) ≤ i ∧ i < (a4 : Int) ∧ (∃ a3 a1 : ByteArray, hcell h a6 (a5 + (Int.toNat i) * 2) = some (.string a3) ∧ hcell h a6 ((a5 + (Int.toNat i) * 2) + 1) = some (.string a1) ∧ ((((a3 == a2 && (a1 == a0 && true))) = true → (∀ (h1 : Heap), Ext h h1 → R (.bool true) h1)) ∧ (((a3 == a2 && (a1 == a0 && true))) = false → (I6 (IntKind.i64.wrap (i + 1)) ∧ b0 (IntKind.i64.wrap (i + 1)) < b0 i)))))) ∧ ((decide (i < (a4 : Int))) = false → (∀ (h1 : Heap), Ext h h1 → R (.bool false) h1)))))) :
  HC Try.prog 16 #[(.slice l a4 a7), (.agg #[(.string a2), (.string a0)])] h R := by
 refine hc_of (args := [(.slice l a4 a7), (.agg #[(.string a2), (.string a0)])]) Try.func16 rfl Try.ntmps16 (Nat.le_of_ble_eq_true rfl) ?_
 refine xs (xr ?_)
 refine lp rfl rfl (hn_box (v := (.agg #[(.string a2), (.string a0)])) rfl ?_)
 intro p h1 b2 b4
 have b1 := ext_pushed_f43_sh b4
 have c3 : Array.size h ≤ p := Nat.le_of_eq (Eq.symm b2)
 have b3 : h1[p]? = some (.cells #[(.string a2), (.string a0)] 43 (0, 0)) := by rw [b4]; exact push_new b2
 refine lv rfl rfl (va rfl) ?_
 refine ln (qn (xs (xs (xr ?_))))
 refine lv rfl rfl (va rfl) ?_
 refine ln (qn (xb ?_))
 obtain ⟨I6, b0, c1, c2⟩ := H
 refine xl (σ := Int) (fun s => [(0, (.slice l a4 a7)), (3, (ptr p 0)), (5, (.int .i64 s))]) (fun s h' => I6 s ∧ h1 = h') (fun s _ => b0 s) 0 ⟨c1, rfl⟩ (hc rfl (hc rfl (hc rfl hn))) ?_
 rintro i ρ _ ⟨b8, rfl⟩
 have H := c2 i b8
 refine xs (xs (xr ?_))
 refine lv rfl rfl (vm rfl) (lv rfl rfl (vm rfl) (lv rfl rfl (v := (.int .i64 (a4 : Int))) (hv_len (n := a4) TyTA.u39 rfl) (lv rfl rfl (vr rfl rfl rfl) ?_)))
 refine ln (qn ?_)
 refine xc (b := decide (i < (a4 : Int))) rfl (fun a8 => ?_) (fun a8 => ?_)
 ·replace H := H.1 a8
  refine xi (qn (xs (xb (xs ?_))))
  refine hx_draw TyTA.mixed [.pure, .pure, .pure, .read, .read, .pure] [0, 1, 2, 3, 4, 5] (by kernel_rfl) ?_
  refine pp (i := 0) rfl (wanted_0 rfl) rfl (.slice l a4 a7) (fun _ => vm rfl) ?_
  refine pp (i := 1) rfl (wanted_0 rfl) rfl (.int .i64 i) (fun _ => vm rfl) ?_
  obtain ⟨a6, a5, c0, b6, b9, Hq⟩ := H
  subst c0
  have H := Hq; clear Hq
  refine pp (i := 2) rfl (wanted_0 rfl) rfl (ptr a6 (a5 + (Int.toNat i) * 2)) (fun _ => vi TyTA.el39 rfl rfl b6 b9) ?_
  obtain ⟨a3, a1, b5, b7, H⟩ := H
  refine pr (i := 3) rfl (wanted_0 rfl) rfl (.agg #[(.string a3), (.string a1)]) (fun _ he => vL (vs := [(.string a3), (.string a1)]) TyTA.agg43 TyTA.sz43 rfl (cc (Ext.cell he (Ext.cell b1 b5)) (cc (Ext.cell he (Ext.cell b1 b7)) cn))) ?_
  refine pr (i := 4) rfl (wanted_0 rfl) rfl (.agg #[(.string a2), (.string a0)]) (fun _ he => vL (vs := [(.string a2), (.string a0)]) TyTA.agg43 TyTA.sz43 rfl (cc (Ext.cell he (rc b3 rfl)) (cc (Ext.cell he (rc b3 rfl)) cn))) ?_
  refine pp (i := 5) rfl (wanted_0 rfl) rfl (.bool ((a3 == a2 && (a1 == a0 && true)))) (fun _ => hv_structEq (xs := [(.string a3), (.string a1)]) (ys := [(.string a2), (.string a0)]) (b := (a3 == a2 && (a1 == a0 && true))) TyTA.se43 rfl rfl (by kernel_rfl) rfl) ?_
  refine hp_nil ?_
  refine qn ?_
  refine xc (b := ((a3 == a2 && (a1 == a0 && true)))) rfl (fun a9 => ?_) (fun a9 => ?_)
  ·replace H := H.1 a9
   refine xs (xr ?_)
   refine lv rfl rfl (va rfl) ?_
   refine ln (qn (xt (br (qr (qr (br (qr ?_)))))))
   replace H := H h1 b1
   exact endQ_ret _ (res_one Try.results16 (rv_tmp rfl)) H
  ·replace H := H.2 a9
   refine xi (bn (qn (xr ?_)))
   refine lv rfl rfl (vm rfl) (lv rfl rfl (vr rfl rfl rfl) (lv rfl rfl (va rfl) ?_))
   refine ln (qn ?_)
   exact ⟨IntKind.i64.wrap (i + 1), ⟨⟨H.1, rfl⟩, H.2⟩, (hc rfl (hc rfl (hc rfl hn)))⟩
 ·replace H := H.2 a8
  refine xe (qe (qe (bh (qn (xs (xr ?_))))))
  refine lv rfl rfl (va rfl) ?_
  refine ln (qn (xt ?_))
  replace H := H h1 b1
  exact endQ_ret _ (res_one Try.results16 (rv_tmp rfl)) H
theorem f61_sh (x : Int) (h : Heap) (R : Value → Heap → Prop)
  (H : R (.int .u64 (ibxor .u64 (IntKind.u64.wrap ((ibxor .u64 (IntKind.u64.wrap ((ibxor .u64 x (Int.fdiv x (2 ^ min (Int.toNat 30) 64))) * 13787848793156543929)) (Int.fdiv (IntKind.u64.wrap ((ibxor .u64 x (Int.fdiv x (2 ^ min (Int.toNat 30) 64))) * 13787848793156543929)) (2 ^ min (Int.toNat 27) 64))) * 10723151780598845931)) (Int.fdiv (IntKind.u64.wrap ((ibxor .u64 (IntKind.u64.wrap ((ibxor .u64 x (Int.fdiv x (2 ^ min (Int.toNat 30) 64))) * 13787848793156543929)) (Int.fdiv (IntKind.u64.wrap ((ibxor .u64 x (Int.fdiv x (2 ^ min (Int.toNat 30) 64))) * 13787848793156543929)) (2 ^ min (Int.toNat 27) 64))) * 10723151780598845931)) (2 ^ min (Int.toNat 31) 64)))) h) :
  HC Try.prog 61 #[(.int .u64 x)] h R := by
 refine hc_of (args := [(.int .u64 x)]) Try.func61 rfl Try.ntmps61 (Nat.le_of_ble_eq_true rfl) ?_
 refine xs (xr ?_)
 refine lv rfl rfl (va rfl) ?_
 refine ln (qn (xs (xr ?_)))
 refine lv rfl rfl (vm rfl) (lv rfl rfl (vm rfl) (lv rfl rfl (v := (.int .u64 (Int.fdiv x (2 ^ min (Int.toNat 30) 64)))) (hv_shift rfl rfl (by decide) rfl) (lv rfl rfl (v := (.int .u64 (ibxor .u64 x (Int.fdiv x (2 ^ min (Int.toNat 30) 64))))) (hv_bits rfl rfl rfl) (lv rfl rfl (vr rfl rfl rfl) (lv rfl rfl (va rfl) ?_)))))
 refine ln (qn (xs (xr ?_)))
 refine lv rfl rfl (vm rfl) (lv rfl rfl (vm rfl) (lv rfl rfl (v := (.int .u64 (Int.fdiv (IntKind.u64.wrap ((ibxor .u64 x (Int.fdiv x (2 ^ min (Int.toNat 30) 64))) * 13787848793156543929)) (2 ^ min (Int.toNat 27) 64)))) (hv_shift rfl rfl (by decide) rfl) (lv rfl rfl (v := (.int .u64 (ibxor .u64 (IntKind.u64.wrap ((ibxor .u64 x (Int.fdiv x (2 ^ min (Int.toNat 30) 64))) * 13787848793156543929)) (Int.fdiv (IntKind.u64.wrap ((ibxor .u64 x (Int.fdiv x (2 ^ min (Int.toNat 30) 64))) * 13787848793156543929)) (2 ^ min (Int.toNat 27) 64))))) (hv_bits rfl rfl rfl) (lv rfl rfl (vr rfl rfl rfl) (lv rfl rfl (va rfl) ?_)))))
 refine ln (qn (xs (xr ?_)))
 refine lv rfl rfl (vm rfl) (lv rfl rfl (vm rfl) (lv rfl rfl (v := (.int .u64 (Int.fdiv (IntKind.u64.wrap ((ibxor .u64 (IntKind.u64.wrap ((ibxor .u64 x (Int.fdiv x (2 ^ min (Int.toNat 30) 64))) * 13787848793156543929)) (Int.fdiv (IntKind.u64.wrap ((ibxor .u64 x (Int.fdiv x (2 ^ min (Int.toNat 30) 64))) * 13787848793156543929)) (2 ^ min (Int.toNat 27) 64))) * 10723151780598845931)) (2 ^ min (Int.toNat 31) 64)))) (hv_shift rfl rfl (by decide) rfl) (lv rfl rfl (v := (.int .u64 (ibxor .u64 (IntKind.u64.wrap ((ibxor .u64 (IntKind.u64.wrap ((ibxor .u64 x (Int.fdiv x (2 ^ min (Int.toNat 30) 64))) * 13787848793156543929)) (Int.fdiv (IntKind.u64.wrap ((ibxor .u64 x (Int.fdiv x (2 ^ min (Int.toNat 30) 64))) * 13787848793156543929)) (2 ^ min (Int.toNat 27) 64))) * 10723151780598845931)) (Int.fdiv (IntKind.u64.wrap ((ibxor .u64 (IntKind.u64.wrap ((ibxor .u64 x (Int.fdiv x (2 ^ min (Int.toNat 30) 64))) * 13787848793156543929)) (Int.fdiv (IntKind.u64.wrap ((ibxor .u64 x (Int.fdiv x (2 ^ min (Int.toNat 30) 64))) * 13787848793156543929)) (2 ^ min (Int.toNat 27) 64))) * 10723151780598845931)) (2 ^ min (Int.toNat 31) 64))))) (hv_bits rfl rfl rfl) (lv rfl rfl (va rfl) ?_))))
 refine ln (qn (xt ?_))
 exact endQ_ret _ (res_one Try.results61 (rv_tmp rfl)) H
theorem f65_sh (x : Int) (h : Heap) (R : Value → Heap → Prop)
  (H : R (.int .u64 (ibxor .u64 (IntKind.u64.wrap ((ibxor .u64 (IntKind.u64.wrap ((ibxor .u64 x (Int.fdiv x (2 ^ min (Int.toNat 30) 64))) * 13787848793156543929)) (Int.fdiv (IntKind.u64.wrap ((ibxor .u64 x (Int.fdiv x (2 ^ min (Int.toNat 30) 64))) * 13787848793156543929)) (2 ^ min (Int.toNat 27) 64))) * 10723151780598845931)) (Int.fdiv (IntKind.u64.wrap ((ibxor .u64 (IntKind.u64.wrap ((ibxor .u64 x (Int.fdiv x (2 ^ min (Int.toNat 30) 64))) * 13787848793156543929)) (Int.fdiv (IntKind.u64.wrap ((ibxor .u64 x (Int.fdiv x (2 ^ min (Int.toNat 30) 64))) * 13787848793156543929)) (2 ^ min (Int.toNat 27) 64))) * 10723151780598845931)) (2 ^ min (Int.toNat 31) 64)))) h) :
  HC Try.prog 65 #[(.int .u64 x)] h R := by
 refine hc_of (args := [(.int .u64 x)]) Try.func65 rfl Try.ntmps65 (Nat.le_of_ble_eq_true rfl) ?_
 refine xs (xr ?_)
 refine lv rfl rfl (va rfl) ?_
 refine ln (qn (xs (xr ?_)))
 refine lv rfl rfl (vm rfl) (lv rfl rfl (vm rfl) (lv rfl rfl (v := (.int .u64 (Int.fdiv x (2 ^ min (Int.toNat 30) 64)))) (hv_shift rfl rfl (by decide) rfl) (lv rfl rfl (v := (.int .u64 (ibxor .u64 x (Int.fdiv x (2 ^ min (Int.toNat 30) 64))))) (hv_bits rfl rfl rfl) (lv rfl rfl (vr rfl rfl rfl) (lv rfl rfl (va rfl) ?_)))))
 refine ln (qn (xs (xr ?_)))
 refine lv rfl rfl (vm rfl) (lv rfl rfl (vm rfl) (lv rfl rfl (v := (.int .u64 (Int.fdiv (IntKind.u64.wrap ((ibxor .u64 x (Int.fdiv x (2 ^ min (Int.toNat 30) 64))) * 13787848793156543929)) (2 ^ min (Int.toNat 27) 64)))) (hv_shift rfl rfl (by decide) rfl) (lv rfl rfl (v := (.int .u64 (ibxor .u64 (IntKind.u64.wrap ((ibxor .u64 x (Int.fdiv x (2 ^ min (Int.toNat 30) 64))) * 13787848793156543929)) (Int.fdiv (IntKind.u64.wrap ((ibxor .u64 x (Int.fdiv x (2 ^ min (Int.toNat 30) 64))) * 13787848793156543929)) (2 ^ min (Int.toNat 27) 64))))) (hv_bits rfl rfl rfl) (lv rfl rfl (vr rfl rfl rfl) (lv rfl rfl (va rfl) ?_)))))
 refine ln (qn (xs (xr ?_)))
 refine lv rfl rfl (vm rfl) (lv rfl rfl (vm rfl) (lv rfl rfl (v := (.int .u64 (Int.fdiv (IntKind.u64.wrap ((ibxor .u64 (IntKind.u64.wrap ((ibxor .u64 x (Int.fdiv x (2 ^ min (Int.toNat 30) 64))) * 13787848793156543929)) (Int.fdiv (IntKind.u64.wrap ((ibxor .u64 x (Int.fdiv x (2 ^ min (Int.toNat 30) 64))) * 13787848793156543929)) (2 ^ min (Int.toNat 27) 64))) * 10723151780598845931)) (2 ^ min (Int.toNat 31) 64)))) (hv_shift rfl rfl (by decide) rfl) (lv rfl rfl (v := (.int .u64 (ibxor .u64 (IntKind.u64.wrap ((ibxor .u64 (IntKind.u64.wrap ((ibxor .u64 x (Int.fdiv x (2 ^ min (Int.toNat 30) 64))) * 13787848793156543929)) (Int.fdiv (IntKind.u64.wrap ((ibxor .u64 x (Int.fdiv x (2 ^ min (Int.toNat 30) 64))) * 13787848793156543929)) (2 ^ min (Int.toNat 27) 64))) * 10723151780598845931)) (Int.fdiv (IntKind.u64.wrap ((ibxor .u64 (IntKind.u64.wrap ((ibxor .u64 x (Int.fdiv x (2 ^ min (Int.toNat 30) 64))) * 13787848793156543929)) (Int.fdiv (IntKind.u64.wrap ((ibxor .u64 x (Int.fdiv x (2 ^ min (Int.toNat 30) 64))) * 13787848793156543929)) (2 ^ min (Int.toNat 27) 64))) * 10723151780598845931)) (2 ^ min (Int.toNat 31) 64))))) (hv_bits rfl rfl rfl) (lv rfl rfl (va rfl) ?_))))
 refine ln (qn (xt ?_))
 exact endQ_ret _ (res_one Try.results65 (rv_tmp rfl)) H
theorem f66_sh (a : Int) (wv : Int) (h : Heap) (R : Value → Heap → Prop)
  (H : (∃ r : Int, HC Try.prog 68 #[(.int .u64 (IntKind.u64.wrap (a + (IntKind.u64.wrap (wv * 14029467366897019727))))), (.int .i64 31)] h (fun vv h' => vv = (.int .u64 r) ∧ h' = h) ∧ R (.int .u64 (IntKind.u64.wrap (r * 11400714785074694791))) h)) :
  HC Try.prog 66 #[(.int .u64 a), (.int .u64 wv)] h R := by
 refine hc_of (args := [(.int .u64 a), (.int .u64 wv)]) Try.func66 rfl Try.ntmps66 (Nat.le_of_ble_eq_true rfl) ?_
 refine xs (xr ?_)
 refine lv rfl rfl (va rfl) ?_
 refine ln (qn (xs (xr ?_)))
 refine lv rfl rfl (vm rfl) (lv rfl rfl (vm rfl) (lv rfl rfl (vr rfl rfl rfl) (lv rfl rfl (vr rfl rfl rfl) ?_)))
 obtain ⟨r, a0, H⟩ := H
 refine lv rfl rfl (hv_call TyTA.cb68 (vs := [(.int .u64 (IntKind.u64.wrap (a + (IntKind.u64.wrap (wv * 14029467366897019727))))), (.int .i64 31)]) rfl a0) (lv rfl rfl (vr rfl rfl rfl) (lv rfl rfl (va rfl) ?_))
 refine ln (qn (xt ?_))
 exact endQ_ret _ (res_one Try.results66 (rv_tmp rfl)) H
theorem f67_sh (b : Option Addr) (a2 : Nat) (a6 : Nat) (a1 : Int) (n : Int) (h : Heap) (R : Value → Heap → Prop)
  (H : (∃ (I1 : Int → Int → Prop) (a5 : Int → Int → Nat), I1 0 (IntKind.i64.wrap (n - 1)) ∧ (∀ (x : Int) (i : Int), I1 x i → (((decide (i ≥ 0)) = true → (∃ a3 a4 : Nat, b = some ⟨a3, a4, none⟩ ∧ (0 : Int) ≤ IntKind.i64.wrap (a1 + i) ∧ IntKind.i64.wrap (a1 + i) < (a2 : Int) ∧ (∃ a0 : Int, hcell h a3 (a4 + (Int.toNat (IntKind.i64.wrap (a1 + i))) * 1) = some (.int .u8 a0) ∧ (I1 (IntKind.u64.wrap ((IntKind.u64.wrap (x * 256)) + (IntKind.u64.wrap a0))) (IntKind.i64.wrap (i - 1)) ∧ a5 (IntKind.u64.wrap ((IntKind.u64.wrap (x * 256)) + (IntKind.u64.wrap a0))) (IntKind.i64.wrap (i - 1)) < a5 x i)))) ∧ ((decide (i ≥ 0)) = false → R (.int .u64 x) h))))) :
  HC Try.prog 67 #[(.slice b a2 a6), (.int .i64 a1), (.int .i64 n)] h R := by
 refine hc_of (args := [(.slice b a2 a6), (.int .i64 a1), (.int .i64 n)]) Try.func67 rfl Try.ntmps67 (Nat.le_of_ble_eq_true rfl) ?_
 refine xs (xr ?_)
 refine lv rfl rfl (va rfl) ?_
 refine ln (qn (xs (xr ?_)))
 refine lv rfl rfl (va rfl) ?_
 refine ln (qn (xs (xs (xr ?_))))
 refine lv rfl rfl (vm rfl) (lv rfl rfl (vr rfl rfl rfl) (lv rfl rfl (va rfl) ?_))
 refine ln (qn (xb ?_))
 obtain ⟨I1, a5, b0, b2⟩ := H
 refine xl (σ := Int × Int) (fun s => [(0, (.slice b a2 a6)), (1, (.int .i64 a1)), (7, (.int .u64 s.1)), (8, (.int .i64 s.2))]) (fun s h' => I1 s.1 s.2 ∧ h = h') (fun s _ => a5 s.1 s.2) (0, IntKind.i64.wrap (n - 1)) ⟨b0, rfl⟩ (hc rfl (hc rfl (hc rfl (hc rfl hn)))) ?_
 rintro ⟨x, i⟩ ρ _ ⟨b1, rfl⟩
 have H := b2 x i b1
 refine xs (xs (xr ?_))
 refine lv rfl rfl (vm rfl) (lv rfl rfl (vr rfl rfl rfl) ?_)
 refine ln (qn ?_)
 refine xc (b := decide (i ≥ 0)) rfl (fun a7 => ?_) (fun a7 => ?_)
 ·replace H := H.1 a7
  refine xi (qn (xs (xb (xr ?_))))
  refine lv rfl rfl (vm rfl) (lv rfl rfl (vr rfl rfl rfl) (lv rfl rfl (vm rfl) (lv rfl rfl (vm rfl) (lv rfl rfl (vm rfl) (lv rfl rfl (vr rfl rfl rfl) ?_)))))
  obtain ⟨a3, a4, a9, b4, a8, Hq⟩ := H
  subst a9
  have H := Hq; clear Hq
  refine lv rfl rfl (v := (ptr a3 (a4 + (Int.toNat (IntKind.i64.wrap (a1 + i))) * 1))) (vi TyTA.el53 rfl rfl b4 a8) ?_
  obtain ⟨a0, b3, H⟩ := H
  refine lv rfl rfl (vl TyTA.agg5 rfl b3) (lv rfl rfl (v := (.int .u64 (IntKind.u64.wrap a0))) (hv_convInt TyTA.u5 TyTA.u31 rfl) (lv rfl rfl (vr rfl rfl rfl) (lv rfl rfl (va rfl) ?_)))
  refine ln (bn (qn (xr ?_)))
  refine lv rfl rfl (vm rfl) (lv rfl rfl (vr rfl rfl rfl) (lv rfl rfl (va rfl) ?_))
  refine ln (qn ?_)
  exact ⟨(IntKind.u64.wrap ((IntKind.u64.wrap (x * 256)) + (IntKind.u64.wrap a0)), IntKind.i64.wrap (i - 1)), ⟨⟨H.1, rfl⟩, H.2⟩, (hc rfl (hc rfl (hc rfl (hc rfl hn))))⟩
 ·replace H := H.2 a7
  refine xe (qe (qe (bh (qn (xs (xr ?_))))))
  refine lv rfl rfl (vm rfl) (lv rfl rfl (va rfl) ?_)
  refine ln (qn (xt ?_))
  exact endQ_ret _ (res_one Try.results67 (rv_tmp rfl)) H
theorem f68_sh (x : Int) (n : Int) (h : Heap) (R : Value → Heap → Prop)
  (H : ((0 : Int) ≤ n ∧ ((0 : Int) ≤ IntKind.i64.wrap (64 - n) ∧ R (.int .u64 (ibor .u64 (IntKind.u64.wrap (x * 2 ^ min (Int.toNat n) 64)) (Int.fdiv x (2 ^ min (Int.toNat (IntKind.i64.wrap (64 - n))) 64)))) h))) :
  HC Try.prog 68 #[(.int .u64 x), (.int .i64 n)] h R := by
 refine hc_of (args := [(.int .u64 x), (.int .i64 n)]) Try.func68 rfl Try.ntmps68 (Nat.le_of_ble_eq_true rfl) ?_
 refine xs (xr ?_)
 refine lv rfl rfl (va rfl) ?_
 refine ln (qn (xs ?_))
 refine hx_draw TyTA.mixed [.pure, .pure, .pure, .pure, .pure, .pure, .pure, .pure, .pure] [0, 1, 2, 3, 4, 5, 6, 7, 8] (by kernel_rfl) ?_
 refine pp (i := 0) rfl (wanted_0 rfl) rfl (.int .u64 x) (fun _ => vm rfl) ?_
 refine pp (i := 1) rfl (wanted_0 rfl) rfl (.int .i64 n) (fun _ => vm rfl) ?_
 obtain ⟨a0, H⟩ := H
 refine pp (i := 2) rfl (wanted_0 rfl) rfl (.int .u64 (IntKind.u64.wrap (x * 2 ^ min (Int.toNat n) 64))) (fun _ => hv_shift rfl rfl a0 rfl) ?_
 refine pp (i := 3) rfl (wanted_0 rfl) rfl (.int .u64 x) (fun _ => vm rfl) ?_
 refine pp (i := 4) rfl (wanted_0 rfl) rfl (.int .i64 n) (fun _ => vm rfl) ?_
 refine pp (i := 5) rfl (wanted_0 rfl) rfl (.int .i64 (IntKind.i64.wrap (64 - n))) (fun _ => vr rfl rfl rfl) ?_
 obtain ⟨a1, H⟩ := H
 refine pp (i := 6) rfl (wanted_0 rfl) rfl (.int .u64 (Int.fdiv x (2 ^ min (Int.toNat (IntKind.i64.wrap (64 - n))) 64))) (fun _ => hv_shift rfl rfl a1 rfl) ?_
 refine pp (i := 7) rfl (wanted_0 rfl) rfl (.int .u64 (ibor .u64 (IntKind.u64.wrap (x * 2 ^ min (Int.toNat n) 64)) (Int.fdiv x (2 ^ min (Int.toNat (IntKind.i64.wrap (64 - n))) 64)))) (fun _ => hv_bits rfl rfl rfl) ?_
 refine pp (i := 8) rfl (wanted_0 rfl) rfl (.int .u64 (ibor .u64 (IntKind.u64.wrap (x * 2 ^ min (Int.toNat n) 64)) (Int.fdiv x (2 ^ min (Int.toNat (IntKind.i64.wrap (64 - n))) 64)))) (fun _ => va rfl) ?_
 refine hp_nil ?_
 refine qn (xt ?_)
 exact endQ_ret _ (res_one Try.results68 (rv_tmp rfl)) H
theorem f76_sh (x : Int) (k : Int) (h : Heap) (R : Value → Heap → Prop)
  (H : ((0 : Int) ≤ iband .u64 (IntKind.u64.wrap k) 63 ∧ ((0 : Int) ≤ IntKind.u64.wrap (64 - (iband .u64 (IntKind.u64.wrap k) 63)) ∧ R (.int .u64 (ibor .u64 (IntKind.u64.wrap (x * 2 ^ min (Int.toNat (iband .u64 (IntKind.u64.wrap k) 63)) 64)) (Int.fdiv x (2 ^ min (Int.toNat (IntKind.u64.wrap (64 - (iband .u64 (IntKind.u64.wrap k) 63)))) 64)))) h))) :
  HC Try.prog 76 #[(.int .u64 x), (.int .i64 k)] h R := by
 refine hc_of (args := [(.int .u64 x), (.int .i64 k)]) Try.func76 rfl Try.ntmps76 (Nat.le_of_ble_eq_true rfl) ?_
 refine xs (xr ?_)
 refine lv rfl rfl (va rfl) ?_
 refine ln (qn (xs (xr ?_)))
 refine lv rfl rfl (vm rfl) (lv rfl rfl (v := (.int .u64 (IntKind.u64.wrap k))) (hv_convInt TyTA.u3 TyTA.u115 rfl) (lv rfl rfl (v := (.int .u64 (iband .u64 (IntKind.u64.wrap k) 63))) (hv_bits rfl rfl rfl) (lv rfl rfl (va rfl) ?_)))
 refine ln (qn (xs (xr ?_)))
 refine lv rfl rfl (vm rfl) (lv rfl rfl (vm rfl) ?_)
 obtain ⟨a0, H⟩ := H
 refine lv rfl rfl (v := (.int .u64 (IntKind.u64.wrap (x * 2 ^ min (Int.toNat (iband .u64 (IntKind.u64.wrap k) 63)) 64)))) (hv_shift rfl rfl a0 rfl) (lv rfl rfl (vm rfl) (lv rfl rfl (vm rfl) (lv rfl rfl (vr rfl rfl rfl) ?_)))
 obtain ⟨a1, H⟩ := H
 refine lv rfl rfl (v := (.int .u64 (Int.fdiv x (2 ^ min (Int.toNat (IntKind.u64.wrap (64 - (iband .u64 (IntKind.u64.wrap k) 63)))) 64)))) (hv_shift rfl rfl a1 rfl) (lv rfl rfl (v := (.int .u64 (ibor .u64 (IntKind.u64.wrap (x * 2 ^ min (Int.toNat (iband .u64 (IntKind.u64.wrap k) 63)) 64)) (Int.fdiv x (2 ^ min (Int.toNat (IntKind.u64.wrap (64 - (iband .u64 (IntKind.u64.wrap k) 63)))) 64))))) (hv_bits rfl rfl rfl) (lv rfl rfl (va rfl) ?_))
 refine ln (qn (xt ?_))
 exact endQ_ret _ (res_one Try.results76 (rv_tmp rfl)) H
theorem f77_sh (a : Int) (wv : Int) (h : Heap) (R : Value → Heap → Prop)
  (H : (∃ r : Int, HC Try.prog 76 #[(.int .u64 (IntKind.u64.wrap (a + (IntKind.u64.wrap (wv * 14029467366897019727))))), (.int .i64 31)] h (fun vv h' => vv = (.int .u64 r) ∧ h' = h) ∧ R (.int .u64 (IntKind.u64.wrap (r * 11400714785074694791))) h)) :
  HC Try.prog 77 #[(.int .u64 a), (.int .u64 wv)] h R := by
 refine hc_of (args := [(.int .u64 a), (.int .u64 wv)]) Try.func77 rfl Try.ntmps77 (Nat.le_of_ble_eq_true rfl) ?_
 refine xs (xr ?_)
 refine lv rfl rfl (va rfl) ?_
 refine ln (qn (xs (xr ?_)))
 refine lv rfl rfl (vm rfl) (lv rfl rfl (vm rfl) (lv rfl rfl (vr rfl rfl rfl) (lv rfl rfl (vr rfl rfl rfl) ?_)))
 obtain ⟨r, a0, H⟩ := H
 refine lv rfl rfl (hv_call TyTA.cb76 (vs := [(.int .u64 (IntKind.u64.wrap (a + (IntKind.u64.wrap (wv * 14029467366897019727))))), (.int .i64 31)]) rfl a0) (lv rfl rfl (vr rfl rfl rfl) (lv rfl rfl (va rfl) ?_))
 refine ln (qn (xt ?_))
 exact endQ_ret _ (res_one Try.results77 (rv_tmp rfl)) H
theorem f78_sh (b : Option Addr) (a1 : Nat) (a3 : Nat) (a0 : Int) (h : Heap) (R : Value → Heap → Prop)
  (H : (∃ (I1 : Int → Int → Prop) (a5 : Int → Int → Nat), I1 0 (IntKind.i64.wrap (a0 - 1)) ∧ (∀ (n : Int) (i : Int), I1 n i → (((decide (i ≥ 0)) = true → (∃ a2 a4 : Nat, b = some ⟨a2, a4, none⟩ ∧ (0 : Int) ≤ i ∧ i < (a1 : Int) ∧ (∃ x : Int, hcell h a2 (a4 + (Int.toNat i) * 1) = some (.int .u8 x) ∧ (I1 (ibor .u64 (IntKind.u64.wrap (n * 2 ^ min (Int.toNat 8) 64)) (IntKind.u64.wrap x)) (IntKind.i64.wrap (i - 1)) ∧ a5 (ibor .u64 (IntKind.u64.wrap (n * 2 ^ min (Int.toNat 8) 64)) (IntKind.u64.wrap x)) (IntKind.i64.wrap (i - 1)) < a5 n i)))) ∧ ((decide (i ≥ 0)) = false → R (.int .u64 n) h))))) :
  HC Try.prog 78 #[(.slice b a1 a3), (.int .i64 a0)] h R := by
 refine hc_of (args := [(.slice b a1 a3), (.int .i64 a0)]) Try.func78 rfl Try.ntmps78 (Nat.le_of_ble_eq_true rfl) ?_
 refine xs (xr ?_)
 refine lv rfl rfl (va rfl) ?_
 refine ln (qn (xs (xr ?_)))
 refine lv rfl rfl (va rfl) ?_
 refine ln (qn (xs (xs (xr ?_))))
 refine lv rfl rfl (vm rfl) (lv rfl rfl (vr rfl rfl rfl) (lv rfl rfl (va rfl) ?_))
 refine ln (qn (xb ?_))
 obtain ⟨I1, a5, a9, b1⟩ := H
 refine xl (σ := Int × Int) (fun s => [(0, (.slice b a1 a3)), (5, (.int .u64 s.1)), (6, (.int .i64 s.2))]) (fun s h' => I1 s.1 s.2 ∧ h = h') (fun s _ => a5 s.1 s.2) (0, IntKind.i64.wrap (a0 - 1)) ⟨a9, rfl⟩ (hc rfl (hc rfl (hc rfl hn))) ?_
 rintro ⟨n, i⟩ ρ _ ⟨b0, rfl⟩
 have H := b1 n i b0
 refine xs (xs (xr ?_))
 refine lv rfl rfl (vm rfl) (lv rfl rfl (vr rfl rfl rfl) ?_)
 refine ln (qn ?_)
 refine xc (b := decide (i ≥ 0)) rfl (fun a6 => ?_) (fun a6 => ?_)
 ·replace H := H.1 a6
  refine xi (qn (xs (xb (xr ?_))))
  refine lv rfl rfl (vm rfl) (lv rfl rfl (v := (.int .u64 (IntKind.u64.wrap (n * 2 ^ min (Int.toNat 8) 64)))) (hv_shift rfl rfl (by decide) rfl) (lv rfl rfl (vm rfl) (lv rfl rfl (vm rfl) ?_)))
  obtain ⟨a2, a4, a8, b3, a7, Hq⟩ := H
  subst a8
  have H := Hq; clear Hq
  refine lv rfl rfl (v := (ptr a2 (a4 + (Int.toNat i) * 1))) (vi TyTA.el53 rfl rfl b3 a7) ?_
  obtain ⟨x, b2, H⟩ := H
  refine lv rfl rfl (vl TyTA.agg5 rfl b2) (lv rfl rfl (v := (.int .u64 (IntKind.u64.wrap x))) (hv_convInt TyTA.u5 TyTA.u31 rfl) (lv rfl rfl (v := (.int .u64 (ibor .u64 (IntKind.u64.wrap (n * 2 ^ min (Int.toNat 8) 64)) (IntKind.u64.wrap x)))) (hv_bits rfl rfl rfl) (lv rfl rfl (va rfl) ?_)))
  refine ln (bn (qn (xr ?_)))
  refine lv rfl rfl (vm rfl) (lv rfl rfl (vr rfl rfl rfl) (lv rfl rfl (va rfl) ?_))
  refine ln (qn ?_)
  exact ⟨(ibor .u64 (IntKind.u64.wrap (n * 2 ^ min (Int.toNat 8) 64)) (IntKind.u64.wrap x), IntKind.i64.wrap (i - 1)), ⟨⟨H.1, rfl⟩, H.2⟩, (hc rfl (hc rfl (hc rfl hn)))⟩
 ·replace H := H.2 a6
  refine xe (qe (qe (bh (qn (xs (xr ?_))))))
  refine lv rfl rfl (vm rfl) (lv rfl rfl (va rfl) ?_)
  refine ln (qn (xt ?_))
  exact endQ_ret _ (res_one Try.results78 (rv_tmp rfl)) H
theorem f58_sh (x : Int) (h : Heap) (R : Value → Heap → Prop)
  (H : R (.bool (x != x)) h) :
  HC Try.prog 58 #[(.int .u64 x)] h R := by
 refine hc_of (args := [(.int .u64 x)]) Try.func58 rfl Try.ntmps58 (Nat.le_of_ble_eq_true rfl) ?_
 refine xs (xr ?_)
 refine lv rfl rfl (va rfl) ?_
 refine ln (qn (xs (xr ?_)))
 refine lv rfl rfl (vm rfl) (lv rfl rfl (vm rfl) (lv rfl rfl (vr rfl rfl rfl) (lv rfl rfl (va rfl) ?_)))
 refine ln (qn (xt ?_))
 exact endQ_ret _ (res_one Try.results58 (rv_tmp rfl)) H
theorem f46_sh (x : Int) (y : Int) (h : Heap) (R : Value → Heap → Prop)
  (H : (∃ r : Bool, HC Try.prog 58 #[(.int .u64 x)] h (fun vv h' => vv = (.bool r) ∧ h' = h) ∧ (∃ a0 : Bool, HC Try.prog 58 #[(.int .u64 y)] h (fun vv h' => vv = (.bool a0) ∧ h' = h) ∧ ((r = true → ((a0 = true → R (.int .i64 0) h) ∧ (a0 = false → R (.int .i64 (-1)) h))) ∧ (r = false → ((a0 = true → R (.int .i64 1) h) ∧ (a0 = false → (((decide (x < y)) = true → R (.int .i64 (-1)) h) ∧ ((decide (x < y)) = false → (((decide (x > y)) = true → R (.int .i64 1) h) ∧ ((decide (x > y)) = false → R (.int .i64 0) h))))))))))) :
  HC Try.prog 46 #[(.int .u64 x), (.int .u64 y)] h R := by
 refine hc_of (args := [(.int .u64 x), (.int .u64 y)]) Try.func46 rfl Try.ntmps46 (Nat.le_of_ble_eq_true rfl) ?_
 refine xs (xr ?_)
 refine lv rfl rfl (va rfl) ?_
 refine ln (qn (xs (xr ?_)))
 refine lv rfl rfl (vm rfl) ?_
 obtain ⟨r, a6, H⟩ := H
 refine lv rfl rfl (hv_call TyTA.cb58 (vs := [(.int .u64 x)]) rfl a6) (lv rfl rfl (va rfl) ?_)
 refine ln (qn (xs (xr ?_)))
 refine lv rfl rfl (vm rfl) ?_
 obtain ⟨a0, a7, H⟩ := H
 refine lv rfl rfl (hv_call TyTA.cb58 (vs := [(.int .u64 y)]) rfl a7) (lv rfl rfl (va rfl) ?_)
 refine ln (qn (xs (xs (xr ?_))))
 refine lv rfl rfl (vm rfl) ?_
 refine ln (qn ?_)
 refine xc (b := r) rfl (fun a2 => ?_) (fun a2 => ?_)
 ·replace H := H.1 a2
  refine xs (xs (xr ?_))
  refine lv rfl rfl (vm rfl) ?_
  refine ln (qn ?_)
  refine xc (b := a0) rfl (fun a5 => ?_) (fun a5 => ?_)
  ·replace H := H.1 a5
   refine xs (xr ?_)
   refine lv rfl rfl (va rfl) ?_
   refine ln (qn (xt (qr (qr ?_))))
   exact endQ_ret _ (res_one Try.results46 (rv_tmp rfl)) H
  ·replace H := H.2 a5
   refine xi (qn (xs (xr ?_)))
   refine lv rfl rfl (va rfl) ?_
   refine ln (qn (xt (qr ?_)))
   exact endQ_ret _ (res_one Try.results46 (rv_tmp rfl)) H
 ·replace H := H.2 a2
  refine xi (qn (xs (xs (xr ?_))))
  refine lv rfl rfl (vm rfl) ?_
  refine ln (qn ?_)
  refine xc (b := a0) rfl (fun a3 => ?_) (fun a3 => ?_)
  ·replace H := H.1 a3
   refine xs (xr ?_)
   refine lv rfl rfl (va rfl) ?_
   refine ln (qn (xt (qr ?_)))
   exact endQ_ret _ (res_one Try.results46 (rv_tmp rfl)) H
  ·replace H := H.2 a3
   refine xi (qn (xs (xs (xr ?_))))
   refine lv rfl rfl (vm rfl) (lv rfl rfl (vm rfl) (lv rfl rfl (vr rfl rfl rfl) ?_))
   refine ln (qn ?_)
   refine xc (b := decide (x < y)) rfl (fun a4 => ?_) (fun a4 => ?_)
   ·replace H := H.1 a4
    refine xs (xr ?_)
    refine lv rfl rfl (va rfl) ?_
    refine ln (qn (xt (qr ?_)))
    exact endQ_ret _ (res_one Try.results46 (rv_tmp rfl)) H
   ·replace H := H.2 a4
    refine xi (qn (xs (xs (xr ?_))))
    refine lv rfl rfl (vm rfl) (lv rfl rfl (vm rfl) (lv rfl rfl (vr rfl rfl rfl) ?_))
    refine ln (qn ?_)
    refine xc (b := decide (x > y)) rfl (fun a1 => ?_) (fun a1 => ?_)
    ·replace H := H.1 a1
     refine xs (xr ?_)
     refine lv rfl rfl (va rfl) ?_
     refine ln (qn (xt (qr ?_)))
     exact endQ_ret _ (res_one Try.results46 (rv_tmp rfl)) H
    ·replace H := H.2 a1
     refine xi (qn (xs (xr ?_)))
     refine lv rfl rfl (va rfl) ?_
     refine ln (qn (xt ?_))
     exact endQ_ret _ (res_one Try.results46 (rv_tmp rfl)) H
theorem f27_sh (l : Option Addr) (b8 : Nat) (c7 : Nat) (i : Int) (j : Int) (h : Heap) (R : Value → Heap → Prop)
  (H : (∃ a8 a7 : Nat, l = some ⟨a8, a7, none⟩ ∧ (0 : Int) ≤ i ∧ i < (b8 : Int) ∧ (∃ x : Option Addr, ∃ f5 g4 : Nat, hcell h a8 ((a7 + (Int.toNat i) * 2) + 1) = some (.slice x f5 g4) ∧ (∃ d4 d5 : Nat, x = some ⟨d4, d5, none⟩ ∧ (0 : Int) ≤ j ∧ j < (f5 : Int) ∧ (∃ a0 a4 : Int, ∃ a1 a2 : ByteArray, hcell h d4 (d5 + (Int.toNat j) * 4) = some (.int .i64 a0) ∧ hcell h d4 ((d5 + (Int.toNat j) * 4) + 1) = some (.int .u64 a4) ∧ hcell h d4 ((d5 + (Int.toNat j) * 4) + 2) = some (.string a1) ∧ hcell h d4 ((d5 + (Int.toNat j) * 4) + 3) = some (.string a2) ∧ (((bif a0 != 1 then (a0 != 2) || ((decide ((a1.size : Int) < 1)) || ((decide ((a1.size : Int) > 255)) || ((a0 == 2) && (!decide (a2 = ByteArray.empty))))) else (decide ((a1.size : Int) < 1)) || ((decide ((a1.size : Int) > 255)) || ((a0 == 2) && (!decide (a2 = ByteArray.empty))))) = true → (∀ (h2 : Heap), Ext h h2 → R (.bool false) h2)) ∧ ((bif a0 != 1 then (a0 != 2) || ((decide ((a1.size : Int) < 1)) || ((decide ((a1.size : Int) > 255)) || ((a0 == 2) && (!decide (a2 = ByteArray.empty))))) else (decide ((a1.size : Int) < 1)) || ((decide ((a1.size : Int) > 255)) || ((a0 == 2) && (!decide (a2 = ByteArray.empty))))) = false → (((a0 == 2) = true → (∀ (h2 : Heap), Ext h h2 → R (.bool true) h2)) ∧ ((a0 == 2) = false → (∃ (e1 : Int → Prop) (d6 : Int → Nat), e1 0 ∧ (∀ (a : Int), e1 a → (((decide (a < (b8 : Int))) = true → (∃ (d9 : Int → Prop) (d7 : Int → Nat), d9 0 ∧ (∀ (b : Int), d9 b → ((0 : Int) ≤ a ∧ a < (b8 : Int) ∧ (∃ d8 : Option Addr, ∃ c1 d3 : Nat, hcell h a8 ((a7 + (Int.toNat a) * 2) + 1) = some (.slice d8 c1 d3) ∧ (((decide (b < (c1 : Int))) = true → (∃ b4 : Bool, (∃ d2 : Int, hcell h a8 (a7 + (Int.toNat a) * 2) = some (.int .u64 d2) ∧ ((0 : Int) ≤ i ∧ i < (b8 : Int) ∧ (∃ d1 : Int, hcell h a8 (a7 + (Int.toNat i) * 2) = some (.int .u64 d1) ∧ (((decide (d2 < d1)) = true → (b4 = true)) ∧ ((decide (d2 < d1)) = false → (((a == i) = true → (b4 = (decide (b < j)))) ∧ ((a == i) = false → (b4 = false)))))))) ∧ (∃ c9 c8 : Nat, d8 = some ⟨c9, c8, none⟩ ∧ (0 : Int) ≤ b ∧ b < (c1 : Int) ∧ (∃ c4 a3 : Int, ∃ a5 c0 : ByteArray, hcell h c9 (c8 + (Int.toNat b) * 4) = some (.int .i64 c4) ∧ hcell h c9 ((c8 + (Int.toNat b) * 4) + 1) = some (.int .u64 a3) ∧ hcell h c9 ((c8 + (Int.toNat b) * 4) + 2) = some (.string a5) ∧ hcell h c9 ((c8 + (Int.toNat b) * 4) + 3) = some (.string c0) ∧ (((b4 && ((decide (a5 = a1)) && (decide (a3 ≥ a4)))) = true → (∀ (h6 : Heap), Ext h h6 → R (.bool false) h6)) ∧ ((b4 && ((decide (a5 = a1)) && (decide (a3 ≥ a4)))) = false → (d9 (IntKind.i64.wrap (b + 1)) ∧ d7 (IntKind.i64.wrap (b + 1)) < d7 b))))))) ∧ ((decide (b < (c1 : Int))) = false → (e1 (IntKind.i64.wrap (a + 1)) ∧ d6 (IntKind.i64.wrap (a + 1)) < d6 a)))))))) ∧ ((decide (a < (b8 : Int))) = false → (∀ (h3 : Heap), Ext h h3 → R (.bool true) h3)))))))))))))) :
  HC Try.prog 27 #[(.slice l b8 c7), (.int .i64 i), (.int .i64 j)] h R := by
 refine hc_of (args := [(.slice l b8 c7), (.int .i64 i), (.int .i64 j)]) Try.func27 rfl Try.ntmps27 (Nat.le_of_ble_eq_true rfl) ?_
 refine xs (xr ?_)
 refine lv rfl rfl (va rfl) ?_
 refine ln (qn (xs (xr ?_)))
 refine lv rfl rfl (vm rfl) (lv rfl rfl (vm rfl) ?_)
 obtain ⟨a8, a7, e0, k6, k1, Hq⟩ := H
 subst e0
 have H := Hq; clear Hq
 refine lv rfl rfl (v := (ptr a8 (a7 + (Int.toNat i) * 2))) (vi TyTA.el22 rfl rfl k6 k1) (lv rfl rfl (v := (ptr a8 ((a7 + (Int.toNat i) * 2) + 1))) (vf TyTA.fld34_1 (b := a8) (o := a7 + (Int.toNat i) * 2) rfl) ?_)
 obtain ⟨x, f5, g4, k0, H⟩ := H
 refine lv rfl rfl (vl TyTA.agg32 rfl k0) (lv rfl rfl (vm rfl) ?_)
 obtain ⟨d4, d5, e0, j9, k3, Hq⟩ := H
 subst e0
 have H := Hq; clear Hq
 refine lv rfl rfl (v := (ptr d4 (d5 + (Int.toNat j) * 4))) (vi TyTA.el32 rfl rfl j9 k3) ?_
 obtain ⟨a0, a4, a1, a2, k4, k5, k7, k2, H⟩ := H
 refine lv rfl rfl (vL (vs := [(.int .i64 a0), (.int .u64 a4), (.string a1), (.string a2)]) TyTA.agg36 TyTA.sz36 rfl (cc k4 (cc k5 (cc k7 (cc k2 cn))))) ?_
 refine lp rfl rfl (hn_alloc TyTA.z36 ?_)
 intro r h1 g2 g1
 have i0 := ext_pushed_f43_sh g1
 have j8 : Array.size h ≤ r := Nat.le_of_eq (Eq.symm g2)
 have f9 : h1[r]? = some (.cells #[(.int .i64 0), (.int .u64 0), (.string ByteArray.empty), (.string ByteArray.empty)] 36 (0, 0)) := by rw [g1]; exact push_new g2
 refine lp rfl rfl (hn_stores (vs := [(.int .i64 a0), (.int .u64 a4), (.string a1), (.string a2)]) rfl rfl TyTA.sz36 rfl (HWs_row f9 (by simp)) ?_)
 intro h2 g0
 have b9 : h2[r]? = some (.cells #[(.int .i64 a0), (.int .u64 a4), (.string a1), (.string a2)] 36 (0, 0)) := row_hsets_eq g0 f9 rfl
 have e4 := ext_hsets g0 i0 j8
 refine ln (qn (xs ?_))
 refine xk (fun ρ h' => h2 = h' ∧ Has ρ [(0, (.slice (some ⟨a8, a7, none⟩) b8 c7)), (1, (.int .i64 i)), (2, (.int .i64 j)), (7, (ptr r 0)), (49, (.bool (bif a0 != 1 then (a0 != 2) || ((decide ((a1.size : Int) < 1)) || ((decide ((a1.size : Int) > 255)) || ((a0 == 2) && (!decide (a2 = ByteArray.empty))))) else (decide ((a1.size : Int) < 1)) || ((decide ((a1.size : Int) > 255)) || ((a0 == 2) && (!decide (a2 = ByteArray.empty)))))))]) ?_ ?_
 ·refine xr ?_
  refine lv rfl rfl (v := (ptr r 0)) (vf TyTA.fld36_0 (b := r) (o := 0) rfl) (lv rfl rfl (vl TyTA.agg3 rfl (rc b9 rfl)) (lv rfl rfl (vr rfl rfl rfl) (lv rfl rfl (vm rfl) ?_)))
  rcases bool_or (a0 != 1) with a6 | a6
  ·refine ly (wanted_y rfl rfl rfl a6) rfl (HStep.of_val (v := (ptr r 0)) (vf TyTA.fld36_0 (b := r) (o := 0) rfl) ?_)
   refine ly (wanted_y rfl rfl rfl a6) rfl (HStep.of_val (v := (.int .i64 a0)) (vl TyTA.agg3 rfl (rc b9 rfl)) ?_)
   refine ly (wanted_y rfl rfl rfl a6) rfl (HStep.of_val (v := (.bool (a0 != 2))) (vr rfl rfl rfl) ?_)
   refine lv rfl rfl (v := (.bool (a0 != 2))) (hv_pick_t rfl a6 rfl) (lv rfl rfl (vm rfl) ?_)
   rcases bool_or (a0 != 2) with b0 | b0
   ·refine lo (wanted_n rfl rfl rfl b0) rfl ?_
    refine lo (wanted_n rfl rfl rfl b0) rfl ?_
    refine lo (wanted_n rfl rfl rfl b0) rfl ?_
    refine lo (wanted_n rfl rfl rfl b0) rfl ?_
    refine lv rfl rfl (v := (.bool true)) (hv_pick_t rfl b0 rfl) (lv rfl rfl (vm rfl) ?_)
    refine lo (wanted_n rfl rfl (c := true) rfl rfl) rfl ?_
    refine lo (wanted_n rfl rfl (c := true) rfl rfl) rfl ?_
    refine lo (wanted_n rfl rfl (c := true) rfl rfl) rfl ?_
    refine lo (wanted_n rfl rfl (c := true) rfl rfl) rfl ?_
    refine lv rfl rfl (v := (.bool true)) (hv_pick (t := true) rfl rfl) (lv rfl rfl (vm rfl) ?_)
    refine lo (wanted_n rfl rfl (c := true) rfl rfl) rfl ?_
    refine lo (wanted_n rfl rfl (c := true) rfl rfl) rfl ?_
    refine lo (wanted_n rfl rfl (c := true) rfl rfl) rfl ?_
    refine lo (wanted_n rfl rfl (c := true) rfl rfl) rfl ?_
    refine lo (wanted_u rfl rfl rfl) rfl ?_
    refine lo (wanted_u rfl rfl rfl) rfl ?_
    refine lo (wanted_u rfl rfl rfl) rfl ?_
    refine lo (wanted_n rfl rfl (c := true) rfl rfl) rfl ?_
    refine lv rfl rfl (v := (.bool true)) (hv_pick (t := true) rfl rfl) ?_
    refine ln (qn ?_)
    exact ⟨rfl, (hc rfl (hc rfl (hc rfl (hc rfl (hc (show ((.bool true) : Value) = (.bool (bif a0 != 1 then (a0 != 2) || ((decide ((a1.size : Int) < 1)) || ((decide ((a1.size : Int) > 255)) || ((a0 == 2) && (!decide (a2 = ByteArray.empty))))) else (decide ((a1.size : Int) < 1)) || ((decide ((a1.size : Int) > 255)) || ((a0 == 2) && (!decide (a2 = ByteArray.empty)))))) from (by first | rfl | ((try rw [a6]); (try rw [b0]); all_goals first | rfl | (simp only [Bool.true_or, Bool.or_true, Bool.false_or, Bool.or_false, Bool.true_and, Bool.and_true, Bool.false_and, Bool.and_false, Bool.not_true, Bool.not_false, Bool.cond_true, Bool.cond_false]; done)) | simp [a6, b0])) hn)))))⟩
   ·refine ly (wanted_y rfl rfl rfl b0) rfl (HStep.of_val (v := (ptr r 2)) (vf TyTA.fld36_2 (b := r) (o := 0) rfl) ?_)
    refine ly (wanted_y rfl rfl rfl b0) rfl (HStep.of_val (v := (.string a1)) (vl TyTA.agg9 rfl (rc b9 rfl)) ?_)
    refine ly (wanted_y rfl rfl rfl b0) rfl (HStep.of_val (v := (.int .i64 (a1.size : Int))) (hv_lenStr TyTA.u9 rfl) ?_)
    refine ly (wanted_y rfl rfl rfl b0) rfl (HStep.of_val (v := (.bool (decide ((a1.size : Int) < 1)))) (vr rfl rfl rfl) ?_)
    refine lv rfl rfl (v := (.bool (decide ((a1.size : Int) < 1)))) (hv_pick_f rfl b0 rfl) (lv rfl rfl (vm rfl) ?_)
    rcases bool_or (decide ((a1.size : Int) < 1)) with b5 | b5
    ·refine lo (wanted_n rfl rfl rfl b5) rfl ?_
     refine lo (wanted_n rfl rfl rfl b5) rfl ?_
     refine lo (wanted_n rfl rfl rfl b5) rfl ?_
     refine lo (wanted_n rfl rfl rfl b5) rfl ?_
     refine lv rfl rfl (v := (.bool true)) (hv_pick_t rfl b5 rfl) (lv rfl rfl (vm rfl) ?_)
     refine lo (wanted_n rfl rfl (c := true) rfl rfl) rfl ?_
     refine lo (wanted_n rfl rfl (c := true) rfl rfl) rfl ?_
     refine lo (wanted_n rfl rfl (c := true) rfl rfl) rfl ?_
     refine lo (wanted_n rfl rfl (c := true) rfl rfl) rfl ?_
     refine lo (wanted_u rfl rfl rfl) rfl ?_
     refine lo (wanted_u rfl rfl rfl) rfl ?_
     refine lo (wanted_u rfl rfl rfl) rfl ?_
     refine lo (wanted_n rfl rfl (c := true) rfl rfl) rfl ?_
     refine lv rfl rfl (v := (.bool true)) (hv_pick (t := true) rfl rfl) ?_
     refine ln (qn ?_)
     exact ⟨rfl, (hc rfl (hc rfl (hc rfl (hc rfl (hc (show ((.bool true) : Value) = (.bool (bif a0 != 1 then (a0 != 2) || ((decide ((a1.size : Int) < 1)) || ((decide ((a1.size : Int) > 255)) || ((a0 == 2) && (!decide (a2 = ByteArray.empty))))) else (decide ((a1.size : Int) < 1)) || ((decide ((a1.size : Int) > 255)) || ((a0 == 2) && (!decide (a2 = ByteArray.empty)))))) from (by first | rfl | ((try rw [a6]); (try rw [b0]); (try rw [b5]); all_goals first | rfl | (simp only [Bool.true_or, Bool.or_true, Bool.false_or, Bool.or_false, Bool.true_and, Bool.and_true, Bool.false_and, Bool.and_false, Bool.not_true, Bool.not_false, Bool.cond_true, Bool.cond_false]; done)) | simp [a6, b0, b5])) hn)))))⟩
    ·refine ly (wanted_y rfl rfl rfl b5) rfl (HStep.of_val (v := (ptr r 2)) (vf TyTA.fld36_2 (b := r) (o := 0) rfl) ?_)
     refine ly (wanted_y rfl rfl rfl b5) rfl (HStep.of_val (v := (.string a1)) (vl TyTA.agg9 rfl (rc b9 rfl)) ?_)
     refine ly (wanted_y rfl rfl rfl b5) rfl (HStep.of_val (v := (.int .i64 (a1.size : Int))) (hv_lenStr TyTA.u9 rfl) ?_)
     refine ly (wanted_y rfl rfl rfl b5) rfl (HStep.of_val (v := (.bool (decide ((a1.size : Int) > 255)))) (vr rfl rfl rfl) ?_)
     refine lv rfl rfl (v := (.bool (decide ((a1.size : Int) > 255)))) (hv_pick_f rfl b5 rfl) (lv rfl rfl (vm rfl) ?_)
     rcases bool_or (decide ((a1.size : Int) > 255)) with a9 | a9
     ·refine lo (wanted_n rfl rfl rfl a9) rfl ?_
      refine lo (wanted_n rfl rfl rfl a9) rfl ?_
      refine lo (wanted_n rfl rfl rfl a9) rfl ?_
      refine lo (wanted_n rfl rfl rfl a9) rfl ?_
      refine lo (wanted_u rfl rfl rfl) rfl ?_
      refine lo (wanted_u rfl rfl rfl) rfl ?_
      refine lo (wanted_u rfl rfl rfl) rfl ?_
      refine lo (wanted_n rfl rfl rfl a9) rfl ?_
      refine lv rfl rfl (v := (.bool true)) (hv_pick_t rfl a9 rfl) ?_
      refine ln (qn ?_)
      exact ⟨rfl, (hc rfl (hc rfl (hc rfl (hc rfl (hc (show ((.bool true) : Value) = (.bool (bif a0 != 1 then (a0 != 2) || ((decide ((a1.size : Int) < 1)) || ((decide ((a1.size : Int) > 255)) || ((a0 == 2) && (!decide (a2 = ByteArray.empty))))) else (decide ((a1.size : Int) < 1)) || ((decide ((a1.size : Int) > 255)) || ((a0 == 2) && (!decide (a2 = ByteArray.empty)))))) from (by first | rfl | ((try rw [a6]); (try rw [b0]); (try rw [b5]); (try rw [a9]); all_goals first | rfl | (simp only [Bool.true_or, Bool.or_true, Bool.false_or, Bool.or_false, Bool.true_and, Bool.and_true, Bool.false_and, Bool.and_false, Bool.not_true, Bool.not_false, Bool.cond_true, Bool.cond_false]; done)) | simp [a6, b0, b5, a9])) hn)))))⟩
     ·refine ly (wanted_y rfl rfl rfl a9) rfl (HStep.of_val (v := (ptr r 0)) (vf TyTA.fld36_0 (b := r) (o := 0) rfl) ?_)
      refine ly (wanted_y rfl rfl rfl a9) rfl (HStep.of_val (v := (.int .i64 a0)) (vl TyTA.agg3 rfl (rc b9 rfl)) ?_)
      refine ly (wanted_y rfl rfl rfl a9) rfl (HStep.of_val (v := (.bool (a0 == 2))) (vr rfl rfl rfl) ?_)
      refine ly (wanted_y rfl rfl rfl a9) rfl (HStep.of_val (v := (.bool (a0 == 2))) (vm rfl) ?_)
      rcases bool_or (a0 == 2) with c2 | c2
      ·refine ly (wanted_y rfl rfl rfl c2) rfl (HStep.of_val (v := (ptr r 3)) (vf TyTA.fld36_3 (b := r) (o := 0) rfl) ?_)
       refine ly (wanted_y rfl rfl rfl c2) rfl (HStep.of_val (v := (.string a2)) (vl TyTA.agg9 rfl (rc b9 rfl)) ?_)
       refine ly (wanted_y rfl rfl rfl c2) rfl (HStep.of_val (v := (.bool (!decide (a2 = ByteArray.empty)))) (hv_str rfl rfl rfl) ?_)
       refine ly (wanted_y rfl rfl rfl a9) rfl (HStep.of_val (v := (.bool (!decide (a2 = ByteArray.empty)))) (hv_pick_t rfl c2 rfl) ?_)
       refine lv rfl rfl (v := (.bool (!decide (a2 = ByteArray.empty)))) (hv_pick_f rfl a9 rfl) ?_
       refine ln (qn ?_)
       exact ⟨rfl, (hc rfl (hc rfl (hc rfl (hc rfl (hc (show ((.bool (!decide (a2 = ByteArray.empty))) : Value) = (.bool (bif a0 != 1 then (a0 != 2) || ((decide ((a1.size : Int) < 1)) || ((decide ((a1.size : Int) > 255)) || ((a0 == 2) && (!decide (a2 = ByteArray.empty))))) else (decide ((a1.size : Int) < 1)) || ((decide ((a1.size : Int) > 255)) || ((a0 == 2) && (!decide (a2 = ByteArray.empty)))))) from (by first | rfl | ((try rw [a6]); (try rw [b0]); (try rw [b5]); (try rw [a9]); (try rw [c2]); all_goals first | rfl | (simp only [Bool.true_or, Bool.or_true, Bool.false_or, Bool.or_false, Bool.true_and, Bool.and_true, Bool.false_and, Bool.and_false, Bool.not_true, Bool.not_false, Bool.cond_true, Bool.cond_false]; done)) | simp [a6, b0, b5, a9, c2])) hn)))))⟩
      ·refine lo (wanted_n rfl rfl rfl c2) rfl ?_
       refine lo (wanted_n rfl rfl rfl c2) rfl ?_
       refine lo (wanted_n rfl rfl rfl c2) rfl ?_
       refine ly (wanted_y rfl rfl rfl a9) rfl (HStep.of_val (v := (.bool false)) (hv_pick_f rfl c2 rfl) ?_)
       refine lv rfl rfl (v := (.bool false)) (hv_pick_f rfl a9 rfl) ?_
       refine ln (qn ?_)
       exact ⟨rfl, (hc rfl (hc rfl (hc rfl (hc rfl (hc (show ((.bool false) : Value) = (.bool (bif a0 != 1 then (a0 != 2) || ((decide ((a1.size : Int) < 1)) || ((decide ((a1.size : Int) > 255)) || ((a0 == 2) && (!decide (a2 = ByteArray.empty))))) else (decide ((a1.size : Int) < 1)) || ((decide ((a1.size : Int) > 255)) || ((a0 == 2) && (!decide (a2 = ByteArray.empty)))))) from (by first | rfl | ((try rw [a6]); (try rw [b0]); (try rw [b5]); (try rw [a9]); (try rw [c2]); all_goals first | rfl | (simp only [Bool.true_or, Bool.or_true, Bool.false_or, Bool.or_false, Bool.true_and, Bool.and_true, Bool.false_and, Bool.and_false, Bool.not_true, Bool.not_false, Bool.cond_true, Bool.cond_false]; done)) | simp [a6, b0, b5, a9, c2])) hn)))))⟩
  ·refine lo (wanted_n rfl rfl rfl a6) rfl ?_
   refine lo (wanted_n rfl rfl rfl a6) rfl ?_
   refine lo (wanted_n rfl rfl rfl a6) rfl ?_
   refine lv rfl rfl (v := (.bool false)) (hv_pick_f rfl a6 rfl) (lv rfl rfl (vm rfl) ?_)
   refine ly (wanted_y rfl rfl (c := false) rfl rfl) rfl (HStep.of_val (v := (ptr r 2)) (vf TyTA.fld36_2 (b := r) (o := 0) rfl) ?_)
   refine ly (wanted_y rfl rfl (c := false) rfl rfl) rfl (HStep.of_val (v := (.string a1)) (vl TyTA.agg9 rfl (rc b9 rfl)) ?_)
   refine ly (wanted_y rfl rfl (c := false) rfl rfl) rfl (HStep.of_val (v := (.int .i64 (a1.size : Int))) (hv_lenStr TyTA.u9 rfl) ?_)
   refine ly (wanted_y rfl rfl (c := false) rfl rfl) rfl (HStep.of_val (v := (.bool (decide ((a1.size : Int) < 1)))) (vr rfl rfl rfl) ?_)
   refine lv rfl rfl (v := (.bool (decide ((a1.size : Int) < 1)))) (hv_pick (t := false) rfl rfl) (lv rfl rfl (vm rfl) ?_)
   rcases bool_or (decide ((a1.size : Int) < 1)) with b2 | b2
   ·refine lo (wanted_n rfl rfl rfl b2) rfl ?_
    refine lo (wanted_n rfl rfl rfl b2) rfl ?_
    refine lo (wanted_n rfl rfl rfl b2) rfl ?_
    refine lo (wanted_n rfl rfl rfl b2) rfl ?_
    refine lv rfl rfl (v := (.bool true)) (hv_pick_t rfl b2 rfl) (lv rfl rfl (vm rfl) ?_)
    refine lo (wanted_n rfl rfl (c := true) rfl rfl) rfl ?_
    refine lo (wanted_n rfl rfl (c := true) rfl rfl) rfl ?_
    refine lo (wanted_n rfl rfl (c := true) rfl rfl) rfl ?_
    refine lo (wanted_n rfl rfl (c := true) rfl rfl) rfl ?_
    refine lo (wanted_u rfl rfl rfl) rfl ?_
    refine lo (wanted_u rfl rfl rfl) rfl ?_
    refine lo (wanted_u rfl rfl rfl) rfl ?_
    refine lo (wanted_n rfl rfl (c := true) rfl rfl) rfl ?_
    refine lv rfl rfl (v := (.bool true)) (hv_pick (t := true) rfl rfl) ?_
    refine ln (qn ?_)
    exact ⟨rfl, (hc rfl (hc rfl (hc rfl (hc rfl (hc (show ((.bool true) : Value) = (.bool (bif a0 != 1 then (a0 != 2) || ((decide ((a1.size : Int) < 1)) || ((decide ((a1.size : Int) > 255)) || ((a0 == 2) && (!decide (a2 = ByteArray.empty))))) else (decide ((a1.size : Int) < 1)) || ((decide ((a1.size : Int) > 255)) || ((a0 == 2) && (!decide (a2 = ByteArray.empty)))))) from (by first | rfl | ((try rw [a6]); (try rw [b2]); all_goals first | rfl | (simp only [Bool.true_or, Bool.or_true, Bool.false_or, Bool.or_false, Bool.true_and, Bool.and_true, Bool.false_and, Bool.and_false, Bool.not_true, Bool.not_false, Bool.cond_true, Bool.cond_false]; done)) | simp [a6, b2])) hn)))))⟩
   ·refine ly (wanted_y rfl rfl rfl b2) rfl (HStep.of_val (v := (ptr r 2)) (vf TyTA.fld36_2 (b := r) (o := 0) rfl) ?_)
    refine ly (wanted_y rfl rfl rfl b2) rfl (HStep.of_val (v := (.string a1)) (vl TyTA.agg9 rfl (rc b9 rfl)) ?_)
    refine ly (wanted_y rfl rfl rfl b2) rfl (HStep.of_val (v := (.int .i64 (a1.size : Int))) (hv_lenStr TyTA.u9 rfl) ?_)
    refine ly (wanted_y rfl rfl rfl b2) rfl (HStep.of_val (v := (.bool (decide ((a1.size : Int) > 255)))) (vr rfl rfl rfl) ?_)
    refine lv rfl rfl (v := (.bool (decide ((a1.size : Int) > 255)))) (hv_pick_f rfl b2 rfl) (lv rfl rfl (vm rfl) ?_)
    rcases bool_or (decide ((a1.size : Int) > 255)) with b1 | b1
    ·refine lo (wanted_n rfl rfl rfl b1) rfl ?_
     refine lo (wanted_n rfl rfl rfl b1) rfl ?_
     refine lo (wanted_n rfl rfl rfl b1) rfl ?_
     refine lo (wanted_n rfl rfl rfl b1) rfl ?_
     refine lo (wanted_u rfl rfl rfl) rfl ?_
     refine lo (wanted_u rfl rfl rfl) rfl ?_
     refine lo (wanted_u rfl rfl rfl) rfl ?_
     refine lo (wanted_n rfl rfl rfl b1) rfl ?_
     refine lv rfl rfl (v := (.bool true)) (hv_pick_t rfl b1 rfl) ?_
     refine ln (qn ?_)
     exact ⟨rfl, (hc rfl (hc rfl (hc rfl (hc rfl (hc (show ((.bool true) : Value) = (.bool (bif a0 != 1 then (a0 != 2) || ((decide ((a1.size : Int) < 1)) || ((decide ((a1.size : Int) > 255)) || ((a0 == 2) && (!decide (a2 = ByteArray.empty))))) else (decide ((a1.size : Int) < 1)) || ((decide ((a1.size : Int) > 255)) || ((a0 == 2) && (!decide (a2 = ByteArray.empty)))))) from (by first | rfl | ((try rw [a6]); (try rw [b2]); (try rw [b1]); all_goals first | rfl | (simp only [Bool.true_or, Bool.or_true, Bool.false_or, Bool.or_false, Bool.true_and, Bool.and_true, Bool.false_and, Bool.and_false, Bool.not_true, Bool.not_false, Bool.cond_true, Bool.cond_false]; done)) | simp [a6, b2, b1])) hn)))))⟩
    ·refine ly (wanted_y rfl rfl rfl b1) rfl (HStep.of_val (v := (ptr r 0)) (vf TyTA.fld36_0 (b := r) (o := 0) rfl) ?_)
     refine ly (wanted_y rfl rfl rfl b1) rfl (HStep.of_val (v := (.int .i64 a0)) (vl TyTA.agg3 rfl (rc b9 rfl)) ?_)
     refine ly (wanted_y rfl rfl rfl b1) rfl (HStep.of_val (v := (.bool (a0 == 2))) (vr rfl rfl rfl) ?_)
     refine ly (wanted_y rfl rfl rfl b1) rfl (HStep.of_val (v := (.bool (a0 == 2))) (vm rfl) ?_)
     rcases bool_or (a0 == 2) with c3 | c3
     ·refine ly (wanted_y rfl rfl rfl c3) rfl (HStep.of_val (v := (ptr r 3)) (vf TyTA.fld36_3 (b := r) (o := 0) rfl) ?_)
      refine ly (wanted_y rfl rfl rfl c3) rfl (HStep.of_val (v := (.string a2)) (vl TyTA.agg9 rfl (rc b9 rfl)) ?_)
      refine ly (wanted_y rfl rfl rfl c3) rfl (HStep.of_val (v := (.bool (!decide (a2 = ByteArray.empty)))) (hv_str rfl rfl rfl) ?_)
      refine ly (wanted_y rfl rfl rfl b1) rfl (HStep.of_val (v := (.bool (!decide (a2 = ByteArray.empty)))) (hv_pick_t rfl c3 rfl) ?_)
      refine lv rfl rfl (v := (.bool (!decide (a2 = ByteArray.empty)))) (hv_pick_f rfl b1 rfl) ?_
      refine ln (qn ?_)
      exact ⟨rfl, (hc rfl (hc rfl (hc rfl (hc rfl (hc (show ((.bool (!decide (a2 = ByteArray.empty))) : Value) = (.bool (bif a0 != 1 then (a0 != 2) || ((decide ((a1.size : Int) < 1)) || ((decide ((a1.size : Int) > 255)) || ((a0 == 2) && (!decide (a2 = ByteArray.empty))))) else (decide ((a1.size : Int) < 1)) || ((decide ((a1.size : Int) > 255)) || ((a0 == 2) && (!decide (a2 = ByteArray.empty)))))) from (by first | rfl | ((try rw [a6]); (try rw [b2]); (try rw [b1]); (try rw [c3]); all_goals first | rfl | (simp only [Bool.true_or, Bool.or_true, Bool.false_or, Bool.or_false, Bool.true_and, Bool.and_true, Bool.false_and, Bool.and_false, Bool.not_true, Bool.not_false, Bool.cond_true, Bool.cond_false]; done)) | simp [a6, b2, b1, c3])) hn)))))⟩
     ·refine lo (wanted_n rfl rfl rfl c3) rfl ?_
      refine lo (wanted_n rfl rfl rfl c3) rfl ?_
      refine lo (wanted_n rfl rfl rfl c3) rfl ?_
      refine ly (wanted_y rfl rfl rfl b1) rfl (HStep.of_val (v := (.bool false)) (hv_pick_f rfl c3 rfl) ?_)
      refine lv rfl rfl (v := (.bool false)) (hv_pick_f rfl b1 rfl) ?_
      refine ln (qn ?_)
      exact ⟨rfl, (hc rfl (hc rfl (hc rfl (hc rfl (hc (show ((.bool false) : Value) = (.bool (bif a0 != 1 then (a0 != 2) || ((decide ((a1.size : Int) < 1)) || ((decide ((a1.size : Int) > 255)) || ((a0 == 2) && (!decide (a2 = ByteArray.empty))))) else (decide ((a1.size : Int) < 1)) || ((decide ((a1.size : Int) > 255)) || ((a0 == 2) && (!decide (a2 = ByteArray.empty)))))) from (by first | rfl | ((try rw [a6]); (try rw [b2]); (try rw [b1]); (try rw [c3]); all_goals first | rfl | (simp only [Bool.true_or, Bool.or_true, Bool.false_or, Bool.or_false, Bool.true_and, Bool.and_true, Bool.false_and, Bool.and_false, Bool.not_true, Bool.not_false, Bool.cond_true, Bool.cond_false]; done)) | simp [a6, b2, b1, c3])) hn)))))⟩
 ·rintro ρ _ ⟨rfl, hH⟩
  refine xh _ hH ?_
  refine xc (b := (bif a0 != 1 then (a0 != 2) || ((decide ((a1.size : Int) < 1)) || ((decide ((a1.size : Int) > 255)) || ((a0 == 2) && (!decide (a2 = ByteArray.empty))))) else (decide ((a1.size : Int) < 1)) || ((decide ((a1.size : Int) > 255)) || ((a0 == 2) && (!decide (a2 = ByteArray.empty)))))) rfl (fun f2 => ?_) (fun f2 => ?_)
  ·replace H := H.1 f2
   refine xs (xr ?_)
   refine lv rfl rfl (va rfl) ?_
   refine ln (qn (xt (qr ?_)))
   replace H := H h2 e4
   exact endQ_ret _ (res_one Try.results27 (rv_tmp rfl)) H
  ·replace H := H.2 f2
   refine xi (qn (xs (xs (xr ?_))))
   refine lv rfl rfl (v := (ptr r 0)) (vf TyTA.fld36_0 (b := r) (o := 0) rfl) (lv rfl rfl (vl TyTA.agg3 rfl (rc b9 rfl)) (lv rfl rfl (vr rfl rfl rfl) ?_))
   refine ln (qn ?_)
   refine xc (b := a0 == 2) rfl (fun f3 => ?_) (fun f3 => ?_)
   ·replace H := H.1 f3
    refine xs (xr ?_)
    refine lv rfl rfl (va rfl) ?_
    refine ln (qn (xt (qr ?_)))
    replace H := H h2 e4
    exact endQ_ret _ (res_one Try.results27 (rv_tmp rfl)) H
   ·replace H := H.2 f3
    refine xi (qn (xs (xs (xr ?_))))
    refine lv rfl rfl (va rfl) ?_
    refine ln (qn (xb ?_))
    obtain ⟨e1, d6, j5, i7⟩ := H
    refine xl (σ := Int) (fun s => [(0, (.slice (some ⟨a8, a7, none⟩) b8 c7)), (1, (.int .i64 i)), (2, (.int .i64 j)), (7, (ptr r 0)), (8, (.int .i64 s))]) (fun s h' => e1 s ∧ Ext h h' ∧ h'[r]? = some (.cells #[(.int .i64 a0), (.int .u64 a4), (.string a1), (.string a2)] 36 (0, 0)) ∧ True) (fun s _ => d6 s) 0 ⟨j5, e4, b9, trivial⟩ (hc rfl (hc rfl (hc rfl (hc rfl (hc rfl hn))))) ?_
    rintro a ρ h3 ⟨g9, g5, i9, -⟩
    have H := i7 a g9
    refine xs (xs (xr ?_))
    refine lv rfl rfl (vm rfl) (lv rfl rfl (vm rfl) (lv rfl rfl (v := (.int .i64 (b8 : Int))) (hv_len (n := b8) TyTA.u22 rfl) (lv rfl rfl (vr rfl rfl rfl) ?_)))
    refine ln (qn ?_)
    refine xc (b := decide (a < (b8 : Int))) rfl (fun e3 => ?_) (fun e3 => ?_)
    ·replace H := H.1 e3
     refine xi (qn (xs (xb (xs (xr ?_)))))
     refine lv rfl rfl (va rfl) ?_
     refine ln (qn (xb ?_))
     obtain ⟨d9, d7, g8, j3⟩ := H
     refine xl (σ := Int) (fun s => [(0, (.slice (some ⟨a8, a7, none⟩) b8 c7)), (1, (.int .i64 i)), (2, (.int .i64 j)), (7, (ptr r 0)), (8, (.int .i64 a)), (9, (.int .i64 s))]) (fun s h' => d9 s ∧ Ext h h' ∧ h'[r]? = some (.cells #[(.int .i64 a0), (.int .u64 a4), (.string a1), (.string a2)] 36 (0, 0)) ∧ True) (fun s _ => d7 s) 0 ⟨g8, g5, i9, trivial⟩ (hc rfl (hc rfl (hc rfl (hc rfl (hc rfl (hc rfl hn)))))) ?_
     rintro b ρ h4 ⟨i3, c6, d0, -⟩
     have H := j3 b i3
     refine xs (xs (xr ?_))
     refine lv rfl rfl (vm rfl) (lv rfl rfl (vm rfl) (lv rfl rfl (vm rfl) ?_))
     obtain ⟨e7, e5, H⟩ := H
     refine lv rfl rfl (v := (ptr a8 (a7 + (Int.toNat a) * 2))) (vi TyTA.el22 rfl rfl e7 e5) (lv rfl rfl (v := (ptr a8 ((a7 + (Int.toNat a) * 2) + 1))) (vf TyTA.fld34_1 (b := a8) (o := a7 + (Int.toNat a) * 2) rfl) ?_)
     obtain ⟨d8, c1, d3, g3, H⟩ := H
     refine lv rfl rfl (vl TyTA.agg32 rfl (Ext.cell c6 g3)) (lv rfl rfl (v := (.int .i64 (c1 : Int))) (hv_len (n := c1) TyTA.u32 rfl) (lv rfl rfl (vr rfl rfl rfl) ?_))
     refine ln (qn ?_)
     refine xc (b := decide (b < (c1 : Int))) rfl (fun e6 => ?_) (fun e6 => ?_)
     ·replace H := H.1 e6
      refine xi (qn (xs (xb ?_)))
      obtain ⟨b4, e9, f1⟩ := H
      refine xk (fun ρ h' => h4 = h' ∧ Has ρ [(0, (.slice (some ⟨a8, a7, none⟩) b8 c7)), (1, (.int .i64 i)), (2, (.int .i64 j)), (7, (ptr r 0)), (8, (.int .i64 a)), (9, (.int .i64 b)), (10, (.bool b4))]) ?_ ?_
      ·have H := e9; clear e9 f1
       refine hx_draw TyTA.mixed [.pure, .pure, .pure, .pure, .read, .pure, .pure, .pure, .pure, .read, .pure, .pure, .pure, .pure, .pure, .pure, .pure, .pure, .pure, .pure, .pure, .pure] [0, 1, 2, 3, 4, 5, 6, 7, 8, 9, 10, 11, 12, 13, 14, 15, 16, 17, 18, 19, 20, 21] (by kernel_rfl) ?_
       refine pp (i := 0) rfl (wanted_0 rfl) rfl (.slice (some ⟨a8, a7, none⟩) b8 c7) (fun _ => vm rfl) ?_
       refine pp (i := 1) rfl (wanted_0 rfl) rfl (.int .i64 a) (fun _ => vm rfl) ?_
       refine pp (i := 2) rfl (wanted_0 rfl) rfl (ptr a8 (a7 + (Int.toNat a) * 2)) (fun _ => vi TyTA.el22 rfl rfl e7 e5) ?_
       refine pp (i := 3) rfl (wanted_0 rfl) rfl (ptr a8 (a7 + (Int.toNat a) * 2)) (fun _ => vf TyTA.fld34_0 (b := a8) (o := a7 + (Int.toNat a) * 2) rfl) ?_
       obtain ⟨d2, i1, H⟩ := H
       refine pr (i := 4) rfl (wanted_0 rfl) rfl (.int .u64 d2) (fun _ he => vl TyTA.agg31 rfl (Ext.cell he (Ext.cell c6 i1))) ?_
       refine pp (i := 5) rfl (wanted_0 rfl) rfl (.slice (some ⟨a8, a7, none⟩) b8 c7) (fun _ => vm rfl) ?_
       refine pp (i := 6) rfl (wanted_0 rfl) rfl (.int .i64 i) (fun _ => vm rfl) ?_
       obtain ⟨j1, g7, H⟩ := H
       refine pp (i := 7) rfl (wanted_0 rfl) rfl (ptr a8 (a7 + (Int.toNat i) * 2)) (fun _ => vi TyTA.el22 rfl rfl j1 g7) ?_
       refine pp (i := 8) rfl (wanted_0 rfl) rfl (ptr a8 (a7 + (Int.toNat i) * 2)) (fun _ => vf TyTA.fld34_0 (b := a8) (o := a7 + (Int.toNat i) * 2) rfl) ?_
       obtain ⟨d1, i2, H⟩ := H
       refine pr (i := 9) rfl (wanted_0 rfl) rfl (.int .u64 d1) (fun _ he => vl TyTA.agg31 rfl (Ext.cell he (Ext.cell c6 i2))) ?_
       refine pp (i := 10) rfl (wanted_0 rfl) rfl (.bool (decide (d2 < d1))) (fun _ => vr rfl rfl rfl) ?_
       refine pp (i := 11) rfl (wanted_0 rfl) rfl (.bool (decide (d2 < d1))) (fun _ => vm rfl) ?_
       rcases bool_or (decide (d2 < d1)) with b7 | b7
       ·replace H := H.1 b7
        refine pn (i := 12) rfl (wanted_n rfl rfl rfl b7) ?_
        refine pn (i := 13) rfl (wanted_n rfl rfl rfl b7) ?_
        refine pn (i := 14) rfl (wanted_n rfl rfl rfl b7) ?_
        refine pn (i := 15) rfl (wanted_n rfl rfl rfl b7) ?_
        refine pn (i := 16) rfl (wanted_u rfl rfl rfl) ?_
        refine pn (i := 17) rfl (wanted_u rfl rfl rfl) ?_
        refine pn (i := 18) rfl (wanted_u rfl rfl rfl) ?_
        refine pn (i := 19) rfl (wanted_n rfl rfl rfl b7) ?_
        refine pp (i := 20) rfl (wanted_0 rfl) rfl (.bool true) (fun _ => hv_pick_t rfl b7 rfl) ?_
        refine pp (i := 21) rfl (wanted_0 rfl) rfl (.bool true) (fun _ => va rfl) ?_
        refine hp_nil ?_
        refine qn ?_
        obtain rfl := H
        exact ⟨rfl, (hc rfl (hc rfl (hc rfl (hc rfl (hc rfl (hc rfl (hc rfl hn)))))))⟩
       ·replace H := H.2 b7
        refine pp (i := 12) rfl (wanted_y rfl rfl rfl b7) rfl (.int .i64 a) (fun _ => vm rfl) ?_
        refine pp (i := 13) rfl (wanted_y rfl rfl rfl b7) rfl (.int .i64 i) (fun _ => vm rfl) ?_
        refine pp (i := 14) rfl (wanted_y rfl rfl rfl b7) rfl (.bool (a == i)) (fun _ => vr rfl rfl rfl) ?_
        refine pp (i := 15) rfl (wanted_y rfl rfl rfl b7) rfl (.bool (a == i)) (fun _ => vm rfl) ?_
        rcases bool_or (a == i) with c5 | c5
        ·replace H := H.1 c5
         refine pp (i := 16) rfl (wanted_y rfl rfl rfl c5) rfl (.int .i64 b) (fun _ => vm rfl) ?_
         refine pp (i := 17) rfl (wanted_y rfl rfl rfl c5) rfl (.int .i64 j) (fun _ => vm rfl) ?_
         refine pp (i := 18) rfl (wanted_y rfl rfl rfl c5) rfl (.bool (decide (b < j))) (fun _ => vr rfl rfl rfl) ?_
         refine pp (i := 19) rfl (wanted_y rfl rfl rfl b7) rfl (.bool (decide (b < j))) (fun _ => hv_pick_t rfl c5 rfl) ?_
         refine pp (i := 20) rfl (wanted_0 rfl) rfl (.bool (decide (b < j))) (fun _ => hv_pick_f rfl b7 rfl) ?_
         refine pp (i := 21) rfl (wanted_0 rfl) rfl (.bool (decide (b < j))) (fun _ => va rfl) ?_
         refine hp_nil ?_
         refine qn ?_
         obtain rfl := H
         exact ⟨rfl, (hc rfl (hc rfl (hc rfl (hc rfl (hc rfl (hc rfl (hc rfl hn)))))))⟩
        ·replace H := H.2 c5
         refine pn (i := 16) rfl (wanted_n rfl rfl rfl c5) ?_
         refine pn (i := 17) rfl (wanted_n rfl rfl rfl c5) ?_
         refine pn (i := 18) rfl (wanted_n rfl rfl rfl c5) ?_
         refine pp (i := 19) rfl (wanted_y rfl rfl rfl b7) rfl (.bool false) (fun _ => hv_pick_f rfl c5 rfl) ?_
         refine pp (i := 20) rfl (wanted_0 rfl) rfl (.bool false) (fun _ => hv_pick_f rfl b7 rfl) ?_
         refine pp (i := 21) rfl (wanted_0 rfl) rfl (.bool false) (fun _ => va rfl) ?_
         refine hp_nil ?_
         refine qn ?_
         obtain rfl := H
         exact ⟨rfl, (hc rfl (hc rfl (hc rfl (hc rfl (hc rfl (hc rfl (hc rfl hn)))))))⟩
      ·have H := f1; clear e9 f1
       rintro ρ _ ⟨rfl, hH⟩
       refine xh _ hH ?_
       refine xs (xr ?_)
       refine lv rfl rfl (vm rfl) (lv rfl rfl (vm rfl) (lv rfl rfl (v := (ptr a8 (a7 + (Int.toNat a) * 2))) (vi TyTA.el22 rfl rfl e7 e5) (lv rfl rfl (v := (ptr a8 ((a7 + (Int.toNat a) * 2) + 1))) (vf TyTA.fld34_1 (b := a8) (o := a7 + (Int.toNat a) * 2) rfl) (lv rfl rfl (vl TyTA.agg32 rfl (Ext.cell c6 g3)) (lv rfl rfl (vm rfl) ?_)))))
       obtain ⟨c9, c8, e0, i4, i8, Hq⟩ := H
       subst e0
       have H := Hq; clear Hq
       refine lv rfl rfl (v := (ptr c9 (c8 + (Int.toNat b) * 4))) (vi TyTA.el32 rfl rfl i4 i8) ?_
       obtain ⟨c4, a3, a5, c0, j6, j7, j0, j4, H⟩ := H
       refine lv rfl rfl (vL (vs := [(.int .i64 c4), (.int .u64 a3), (.string a5), (.string c0)]) TyTA.agg36 TyTA.sz36 rfl (cc (Ext.cell c6 j6) (cc (Ext.cell c6 j7) (cc (Ext.cell c6 j0) (cc (Ext.cell c6 j4) cn))))) ?_
       refine lp rfl rfl (hn_alloc TyTA.z36 ?_)
       intro o h5 e2 f8
       have g6 := ext_pushed_f43_sh f8
       have i6 := Nat.ne_of_lt (Nat.lt_of_lt_of_eq (row_lt d0) (Eq.symm e2))
       have j2 : Array.size h ≤ o := Nat.le_trans (Ext.size c6) (Nat.le_of_eq (Eq.symm e2))
       have f7 : h5[o]? = some (.cells #[(.int .i64 0), (.int .u64 0), (.string ByteArray.empty), (.string ByteArray.empty)] 36 (0, 0)) := by rw [f8]; exact push_new e2
       replace d0 := Ext.row g6 d0
       have i5 := Ext.trans c6 g6
       refine lp rfl rfl (hn_stores (vs := [(.int .i64 c4), (.int .u64 a3), (.string a5), (.string c0)]) rfl rfl TyTA.sz36 rfl (HWs_row f7 (by simp)) ?_)
       intro h6 f0
       replace d0 := row_hsets_ne f0 i6 d0
       have f4 : h6[o]? = some (.cells #[(.int .i64 c4), (.int .u64 a3), (.string a5), (.string c0)] 36 (0, 0)) := row_hsets_eq f0 f7 rfl
       have f6 := ext_hsets f0 i5 j2
       refine ln (qn ?_)
       refine xk (fun ρ h' => h6 = h' ∧ Has ρ [(0, (.slice (some ⟨a8, a7, none⟩) b8 c7)), (1, (.int .i64 i)), (2, (.int .i64 j)), (7, (ptr r 0)), (8, (.int .i64 a)), (9, (.int .i64 b)), (112, (.bool (b4 && ((decide (a5 = a1)) && (decide (a3 ≥ a4))))))]) ?_ ?_
       ·refine xr ?_
        refine lv rfl rfl (vm rfl) (lv rfl rfl (vm rfl) ?_)
        rcases bool_or (b4) with b3 | b3
        ·refine ly (wanted_y rfl rfl rfl b3) rfl (HStep.of_val (v := (ptr o 2)) (vf TyTA.fld36_2 (b := o) (o := 0) rfl) ?_)
         refine ly (wanted_y rfl rfl rfl b3) rfl (HStep.of_val (v := (.string a5)) (vl TyTA.agg9 rfl (rc f4 rfl)) ?_)
         refine ly (wanted_y rfl rfl rfl b3) rfl (HStep.of_val (v := (ptr r 2)) (vf TyTA.fld36_2 (b := r) (o := 0) rfl) ?_)
         refine ly (wanted_y rfl rfl rfl b3) rfl (HStep.of_val (v := (.string a1)) (vl TyTA.agg9 rfl (rc d0 rfl)) ?_)
         refine ly (wanted_y rfl rfl rfl b3) rfl (HStep.of_val (v := (.bool (decide (a5 = a1)))) (hv_str rfl rfl rfl) ?_)
         refine lv rfl rfl (v := (.bool (decide (a5 = a1)))) (hv_pick_t rfl b3 rfl) (lv rfl rfl (vm rfl) ?_)
         rcases bool_or (decide (a5 = a1)) with b6 | b6
         ·refine ly (wanted_y rfl rfl rfl b6) rfl (HStep.of_val (v := (ptr o 1)) (vf TyTA.fld36_1 (b := o) (o := 0) rfl) ?_)
          refine ly (wanted_y rfl rfl rfl b6) rfl (HStep.of_val (v := (.int .u64 a3)) (vl TyTA.agg31 rfl (rc f4 rfl)) ?_)
          refine ly (wanted_y rfl rfl rfl b6) rfl (HStep.of_val (v := (ptr r 1)) (vf TyTA.fld36_1 (b := r) (o := 0) rfl) ?_)
          refine ly (wanted_y rfl rfl rfl b6) rfl (HStep.of_val (v := (.int .u64 a4)) (vl TyTA.agg31 rfl (rc d0 rfl)) ?_)
          refine ly (wanted_y rfl rfl rfl b6) rfl (HStep.of_val (v := (.bool (decide (a3 ≥ a4)))) (vr rfl rfl rfl) ?_)
          refine lv rfl rfl (v := (.bool (decide (a3 ≥ a4)))) (hv_pick_t rfl b6 rfl) ?_
          refine ln (qn ?_)
          exact ⟨rfl, (hc rfl (hc rfl (hc rfl (hc rfl (hc rfl (hc rfl (hc (show ((.bool (decide (a3 ≥ a4))) : Value) = (.bool (b4 && ((decide (a5 = a1)) && (decide (a3 ≥ a4))))) from (by first | rfl | ((try rw [b3]); (try rw [b6]); all_goals first | rfl | (simp only [Bool.true_or, Bool.or_true, Bool.false_or, Bool.or_false, Bool.true_and, Bool.and_true, Bool.false_and, Bool.and_false, Bool.not_true, Bool.not_false, Bool.cond_true, Bool.cond_false]; done)) | simp [b3, b6])) hn)))))))⟩
         ·refine lo (wanted_n rfl rfl rfl b6) rfl ?_
          refine lo (wanted_n rfl rfl rfl b6) rfl ?_
          refine lo (wanted_n rfl rfl rfl b6) rfl ?_
          refine lo (wanted_n rfl rfl rfl b6) rfl ?_
          refine lo (wanted_n rfl rfl rfl b6) rfl ?_
          refine lv rfl rfl (v := (.bool false)) (hv_pick_f rfl b6 rfl) ?_
          refine ln (qn ?_)
          exact ⟨rfl, (hc rfl (hc rfl (hc rfl (hc rfl (hc rfl (hc rfl (hc (show ((.bool false) : Value) = (.bool (b4 && ((decide (a5 = a1)) && (decide (a3 ≥ a4))))) from (by first | rfl | ((try rw [b3]); (try rw [b6]); all_goals first | rfl | (simp only [Bool.true_or, Bool.or_true, Bool.false_or, Bool.or_false, Bool.true_and, Bool.and_true, Bool.false_and, Bool.and_false, Bool.not_true, Bool.not_false, Bool.cond_true, Bool.cond_false]; done)) | simp [b3, b6])) hn)))))))⟩
        ·refine lo (wanted_n rfl rfl rfl b3) rfl ?_
         refine lo (wanted_n rfl rfl rfl b3) rfl ?_
         refine lo (wanted_n rfl rfl rfl b3) rfl ?_
         refine lo (wanted_n rfl rfl rfl b3) rfl ?_
         refine lo (wanted_n rfl rfl rfl b3) rfl ?_
         refine lv rfl rfl (v := (.bool false)) (hv_pick_f rfl b3 rfl) (lv rfl rfl (vm rfl) ?_)
         refine lo (wanted_n rfl rfl (c := false) rfl rfl) rfl ?_
         refine lo (wanted_n rfl rfl (c := false) rfl rfl) rfl ?_
         refine lo (wanted_n rfl rfl (c := false) rfl rfl) rfl ?_
         refine lo (wanted_n rfl rfl (c := false) rfl rfl) rfl ?_
         refine lo (wanted_n rfl rfl (c := false) rfl rfl) rfl ?_
         refine lv rfl rfl (v := (.bool false)) (hv_pick (t := false) rfl rfl) ?_
         refine ln (qn ?_)
         exact ⟨rfl, (hc rfl (hc rfl (hc rfl (hc rfl (hc rfl (hc rfl (hc (show ((.bool false) : Value) = (.bool (b4 && ((decide (a5 = a1)) && (decide (a3 ≥ a4))))) from (by first | rfl | ((try rw [b3]); all_goals first | rfl | (simp only [Bool.true_or, Bool.or_true, Bool.false_or, Bool.or_false, Bool.true_and, Bool.and_true, Bool.false_and, Bool.and_false, Bool.not_true, Bool.not_false, Bool.cond_true, Bool.cond_false]; done)) | simp [b3])) hn)))))))⟩
       ·rintro ρ _ ⟨rfl, hH⟩
        refine xh _ hH ?_
        refine xc (b := (b4 && ((decide (a5 = a1)) && (decide (a3 ≥ a4))))) rfl (fun e8 => ?_) (fun e8 => ?_)
        ·replace H := H.1 e8
         refine xs (xr ?_)
         refine lv rfl rfl (va rfl) ?_
         refine ln (qn (xt (br (qr (qr (br (br (qr (qr (br (qr ?_)))))))))))
         replace H := H h6 f6
         exact endQ_ret _ (res_one Try.results27 (rv_tmp rfl)) H
        ·replace H := H.2 e8
         refine xi (bn (qn (xr ?_)))
         refine lv rfl rfl (vm rfl) (lv rfl rfl (vr rfl rfl rfl) (lv rfl rfl (va rfl) ?_))
         refine ln (qn ?_)
         exact ⟨IntKind.i64.wrap (b + 1), ⟨⟨H.1, f6, d0, trivial⟩, H.2⟩, (hc rfl (hc rfl (hc rfl (hc rfl (hc rfl (hc rfl hn))))))⟩
     ·replace H := H.2 e6
      refine xe (qe (qe (bh (bn (qn (xr ?_))))))
      refine lv rfl rfl (vm rfl) (lv rfl rfl (vr rfl rfl rfl) (lv rfl rfl (va rfl) ?_))
      refine ln (qn ?_)
      exact ⟨IntKind.i64.wrap (a + 1), ⟨⟨H.1, c6, d0, trivial⟩, H.2⟩, (hc rfl (hc rfl (hc rfl (hc rfl (hc rfl hn)))))⟩
    ·replace H := H.2 e3
     refine xe (qe (qe (bh (qn (xs (xr ?_))))))
     refine lv rfl rfl (va rfl) ?_
     refine ln (qn (xt ?_))
     replace H := H h3 g5
     exact endQ_ret _ (res_one Try.results27 (rv_tmp rfl)) H
theorem f11_sh (l : Option Addr) (a2 : Nat) (a3 : Nat) (h : Heap) (R : Value → Heap → Prop)
  (H : (∃ (I1 : Int → Heap → Prop) (b5 : Int → Heap → Nat), I1 0 h ∧ (∀ (i : Int) (h1 : Heap), I1 i h1 → (((decide (i < (a2 : Int))) = true → (∃ a1 a0 : Nat, l = some ⟨a1, a0, none⟩ ∧ (0 : Int) ≤ i ∧ i < (a2 : Int) ∧ (∃ x : Int, hcell h1 a1 (a0 + (Int.toNat i) * 2) = some (.int .u64 x) ∧ (((x == 0) = true → R (.int .i64 170) h1) ∧ ((x == 0) = false → (∃ (a9 : Int → Prop) (a7 : Int → Nat), a9 0 ∧ (∀ (k : Int), a9 k → (((decide (k < i)) = true → ((0 : Int) ≤ k ∧ k < (a2 : Int) ∧ (∃ a4 : Int, hcell h1 a1 (a0 + (Int.toNat k) * 2) = some (.int .u64 a4) ∧ ((0 : Int) ≤ i ∧ i < (a2 : Int) ∧ (((a4 == x) = true → R (.int .i64 170) h1) ∧ ((a4 == x) = false → (a9 (IntKind.i64.wrap (k + 1)) ∧ a7 (IntKind.i64.wrap (k + 1)) < a7 k))))))) ∧ ((decide (k < i)) = false → (∃ (a8 : Int → Heap → Prop) (a6 : Int → Heap → Nat), a8 0 h1 ∧ (∀ (j : Int) (h2 : Heap), a8 j h2 → ((0 : Int) ≤ i ∧ i < (a2 : Int) ∧ (∃ a4 : Option Addr, ∃ a5 b7 : Nat, hcell h2 a1 ((a0 + (Int.toNat i) * 2) + 1) = some (.slice a4 a5 b7) ∧ (((decide (j < (a5 : Int))) = true → HC Try.prog 27 #[(.slice (some ⟨a1, a0, none⟩) a2 a3), (.int .i64 i), (.int .i64 j)] h2 (fun vv h3 => Ext h2 h3 ∧ ∃ r : Bool, vv = (.bool r) ∧ (((!r) = true → R (.int .i64 170) h3) ∧ ((!r) = false → (a8 (IntKind.i64.wrap (j + 1)) h3 ∧ a6 (IntKind.i64.wrap (j + 1)) h3 < a6 j h2))))) ∧ ((decide (j < (a5 : Int))) = false → (I1 (IntKind.i64.wrap (i + 1)) h2 ∧ b5 (IntKind.i64.wrap (i + 1)) h2 < b5 i h1)))))))))))))))) ∧ ((decide (i < (a2 : Int))) = false → R (.int .i64 0) h1))))) :
  HC Try.prog 11 #[(.slice l a2 a3)] h R := by
 refine hc_of (args := [(.slice l a2 a3)]) Try.func11 rfl Try.ntmps11 (Nat.le_of_ble_eq_true rfl) ?_
 refine xs (xr ?_)
 refine lv rfl rfl (va rfl) ?_
 refine ln (qn (xs (xs (xr ?_))))
 refine lv rfl rfl (va rfl) ?_
 refine ln (qn (xb ?_))
 obtain ⟨I1, b5, d4, d5⟩ := H
 refine xl (σ := Int) (fun s => [(0, (.slice l a2 a3)), (3, (.int .i64 s))]) (fun s h' => I1 s h' ∧ True) (fun s h' => b5 s h') 0 ⟨d4, trivial⟩ (hc rfl (hc rfl hn)) ?_
 rintro i ρ h1 ⟨d7, -⟩
 have H := d5 i h1 d7
 refine xs (xs (xr ?_))
 refine lv rfl rfl (vm rfl) (lv rfl rfl (vm rfl) (lv rfl rfl (v := (.int .i64 (a2 : Int))) (hv_len (n := a2) TyTA.u22 rfl) (lv rfl rfl (vr rfl rfl rfl) ?_)))
 refine ln (qn ?_)
 refine xc (b := decide (i < (a2 : Int))) rfl (fun b6 => ?_) (fun b6 => ?_)
 ·replace H := H.1 b6
  refine xi (qn (xs (xb (xs (xs (xr ?_))))))
  refine lv rfl rfl (vm rfl) (lv rfl rfl (vm rfl) ?_)
  obtain ⟨a1, a0, d3, d8, d6, Hq⟩ := H
  subst d3
  have H := Hq; clear Hq
  refine lv rfl rfl (v := (ptr a1 (a0 + (Int.toNat i) * 2))) (vi TyTA.el22 rfl rfl d8 d6) (lv rfl rfl (v := (ptr a1 (a0 + (Int.toNat i) * 2))) (vf TyTA.fld34_0 (b := a1) (o := a0 + (Int.toNat i) * 2) rfl) ?_)
  obtain ⟨x, b8, H⟩ := H
  refine lv rfl rfl (vl TyTA.agg31 rfl b8) (lv rfl rfl (vr rfl rfl rfl) ?_)
  refine ln (qn ?_)
  refine xc (b := x == 0) rfl (fun b2 => ?_) (fun b2 => ?_)
  ·replace H := H.1 b2
   refine xs (xr ?_)
   refine lv rfl rfl (va rfl) ?_
   refine ln (qn (xt (qr (br (qr (qr (br (qr ?_))))))))
   exact endQ_ret _ (res_one Try.results11 (rv_tmp rfl)) H
  ·replace H := H.2 b2
   refine xi (qn (xs (xs (xr ?_))))
   refine lv rfl rfl (va rfl) ?_
   refine ln (qn (xb ?_))
   obtain ⟨a9, a7, c3, c4⟩ := H
   refine xl (σ := Int) (fun s => [(0, (.slice (some ⟨a1, a0, none⟩) a2 a3)), (3, (.int .i64 i)), (4, (.int .i64 s))]) (fun s h' => a9 s ∧ h1 = h') (fun s _ => a7 s) 0 ⟨c3, rfl⟩ (hc rfl (hc rfl (hc rfl hn))) ?_
   rintro k ρ _ ⟨c8, rfl⟩
   have H := c4 k c8
   refine xs (xs (xr ?_))
   refine lv rfl rfl (vm rfl) (lv rfl rfl (vm rfl) (lv rfl rfl (vr rfl rfl rfl) ?_))
   refine ln (qn ?_)
   refine xc (b := decide (k < i)) rfl (fun b4 => ?_) (fun b4 => ?_)
   ·replace H := H.1 b4
    refine xi (qn (xs (xb (xs ?_))))
    refine hx_draw TyTA.mixed [.pure, .pure, .pure, .pure, .read, .pure, .pure, .pure, .pure, .read, .pure] [0, 1, 2, 3, 4, 5, 6, 7, 8, 9, 10] (by kernel_rfl) ?_
    refine pp (i := 0) rfl (wanted_0 rfl) rfl (.slice (some ⟨a1, a0, none⟩) a2 a3) (fun _ => vm rfl) ?_
    refine pp (i := 1) rfl (wanted_0 rfl) rfl (.int .i64 k) (fun _ => vm rfl) ?_
    obtain ⟨c1, d0, H⟩ := H
    refine pp (i := 2) rfl (wanted_0 rfl) rfl (ptr a1 (a0 + (Int.toNat k) * 2)) (fun _ => vi TyTA.el22 rfl rfl c1 d0) ?_
    refine pp (i := 3) rfl (wanted_0 rfl) rfl (ptr a1 (a0 + (Int.toNat k) * 2)) (fun _ => vf TyTA.fld34_0 (b := a1) (o := a0 + (Int.toNat k) * 2) rfl) ?_
    obtain ⟨a4, d2, H⟩ := H
    refine pr (i := 4) rfl (wanted_0 rfl) rfl (.int .u64 a4) (fun _ he => vl TyTA.agg31 rfl (Ext.cell he d2)) ?_
    refine pp (i := 5) rfl (wanted_0 rfl) rfl (.slice (some ⟨a1, a0, none⟩) a2 a3) (fun _ => vm rfl) ?_
    refine pp (i := 6) rfl (wanted_0 rfl) rfl (.int .i64 i) (fun _ => vm rfl) ?_
    obtain ⟨c6, d1, H⟩ := H
    refine pp (i := 7) rfl (wanted_0 rfl) rfl (ptr a1 (a0 + (Int.toNat i) * 2)) (fun _ => vi TyTA.el22 rfl rfl c6 d1) ?_
    refine pp (i := 8) rfl (wanted_0 rfl) rfl (ptr a1 (a0 + (Int.toNat i) * 2)) (fun _ => vf TyTA.fld34_0 (b := a1) (o := a0 + (Int.toNat i) * 2) rfl) ?_
    refine pr (i := 9) rfl (wanted_0 rfl) rfl (.int .u64 x) (fun _ he => vl TyTA.agg31 rfl (Ext.cell he b8)) ?_
    refine pp (i := 10) rfl (wanted_0 rfl) rfl (.bool (a4 == x)) (fun _ => vr rfl rfl rfl) ?_
    refine hp_nil ?_
    refine qn ?_
    refine xc (b := a4 == x) rfl (fun b3 => ?_) (fun b3 => ?_)
    ·replace H := H.1 b3
     refine xs (xr ?_)
     refine lv rfl rfl (va rfl) ?_
     refine ln (qn (xt (br (qr (qr (br (qr (br (qr (qr (br (qr ?_))))))))))))
     exact endQ_ret _ (res_one Try.results11 (rv_tmp rfl)) H
    ·replace H := H.2 b3
     refine xi (bn (qn (xr ?_)))
     refine lv rfl rfl (vm rfl) (lv rfl rfl (vr rfl rfl rfl) (lv rfl rfl (va rfl) ?_))
     refine ln (qn ?_)
     exact ⟨IntKind.i64.wrap (k + 1), ⟨⟨H.1, rfl⟩, H.2⟩, (hc rfl (hc rfl (hc rfl hn)))⟩
   ·replace H := H.2 b4
    refine xe (qe (qe (bh (qn (xs (xr ?_))))))
    refine lv rfl rfl (va rfl) ?_
    refine ln (qn (xb ?_))
    obtain ⟨a8, a6, c7, b9⟩ := H
    refine xl (σ := Int) (fun s => [(0, (.slice (some ⟨a1, a0, none⟩) a2 a3)), (3, (.int .i64 i)), (5, (.int .i64 s))]) (fun s h' => a8 s h' ∧ True) (fun s h' => a6 s h') 0 ⟨c7, trivial⟩ (hc rfl (hc rfl (hc rfl hn))) ?_
    rintro j ρ h2 ⟨c0, -⟩
    have H := b9 j h2 c0
    refine xs (xs (xr ?_))
    refine lv rfl rfl (vm rfl) (lv rfl rfl (vm rfl) (lv rfl rfl (vm rfl) ?_))
    obtain ⟨c5, c2, H⟩ := H
    refine lv rfl rfl (v := (ptr a1 (a0 + (Int.toNat i) * 2))) (vi TyTA.el22 rfl rfl c5 c2) (lv rfl rfl (v := (ptr a1 ((a0 + (Int.toNat i) * 2) + 1))) (vf TyTA.fld34_1 (b := a1) (o := a0 + (Int.toNat i) * 2) rfl) ?_)
    obtain ⟨a4, a5, b7, c9, H⟩ := H
    refine lv rfl rfl (vl TyTA.agg32 rfl c9) (lv rfl rfl (v := (.int .i64 (a5 : Int))) (hv_len (n := a5) TyTA.u32 rfl) (lv rfl rfl (vr rfl rfl rfl) ?_))
    refine ln (qn ?_)
    refine xc (b := decide (j < (a5 : Int))) rfl (fun b0 => ?_) (fun b0 => ?_)
    ·replace H := H.1 b0
     refine xi (qn (xs (xb (xs (xr ?_)))))
     refine lv rfl rfl (vm rfl) (lv rfl rfl (vm rfl) (lv rfl rfl (vm rfl) ?_))
     refine lp rfl rfl (sc TyTA.cb27 rfl (HC.mono H ?_))
     rintro _ h3 ⟨d9, r, rfl, H⟩
     refine lv rfl rfl (v := (.bool (!r))) (hv_not (b := r) rfl) ?_
     refine ln (qn ?_)
     refine xc (b := !r) rfl (fun b1 => ?_) (fun b1 => ?_)
     ·replace H := H.1 b1
      refine xs (xr ?_)
      refine lv rfl rfl (va rfl) ?_
      refine ln (qn (xt (br (qr (qr (br (br (qr (qr (br (qr ?_)))))))))))
      exact endQ_ret _ (res_one Try.results11 (rv_tmp rfl)) H
     ·replace H := H.2 b1
      refine xi (bn (qn (xr ?_)))
      refine lv rfl rfl (vm rfl) (lv rfl rfl (vr rfl rfl rfl) (lv rfl rfl (va rfl) ?_))
      refine ln (qn ?_)
      exact ⟨IntKind.i64.wrap (j + 1), ⟨⟨H.1, trivial⟩, H.2⟩, (hc rfl (hc rfl (hc rfl hn)))⟩
    ·replace H := H.2 b0
     refine xe (qe (qe (bh (bn (qn (xr ?_))))))
     refine lv rfl rfl (vm rfl) (lv rfl rfl (vr rfl rfl rfl) (lv rfl rfl (va rfl) ?_))
     refine ln (qn ?_)
     exact ⟨IntKind.i64.wrap (i + 1), ⟨⟨H.1, trivial⟩, H.2⟩, (hc rfl (hc rfl hn))⟩
 ·replace H := H.2 b6
  refine xe (qe (qe (bh (qn (xs (xr ?_))))))
  refine lv rfl rfl (va rfl) ?_
  refine ln (qn (xt ?_))
  exact endQ_ret _ (res_one Try.results11 (rv_tmp rfl)) H
theorem f51_sh (a1 : Nat) (a2 : Nat) (hv : Int) (j : Int) (h : Heap) (R : Value → Heap → Prop)
  (H : (∃ r : Int, HC Try.prog 65 #[(.int .u64 (IntKind.u64.wrap (hv + 1)))] h (fun vv h' => vv = (.int .u64 r) ∧ h' = h) ∧ (∃ a0 : Int, (∀ h1, Ext h h1 → HC Try.prog 65 #[(.int .u64 hv)] h1 (fun vv h' => vv = (.int .u64 a0) ∧ h' = h1)) ∧ (∃ x : Int, hcell h a1 a2 = some (.int .i64 x) ∧ (IntKind.u64.wrap x ≠ 0 ∧ R (.int .i64 (IntKind.i64.wrap (Int.tmod (IntKind.u64.wrap (a0 + (IntKind.u64.wrap ((IntKind.u64.wrap j) * (ibor .u64 r 1))))) (IntKind.u64.wrap x)))) h))))) :
  HC Try.prog 51 #[(ptr a1 a2), (.int .u64 hv), (.int .i64 j)] h R := by
 refine hc_of (args := [(ptr a1 a2), (.int .u64 hv), (.int .i64 j)]) Try.func51 rfl Try.ntmps51 (Nat.le_of_ble_eq_true rfl) ?_
 refine xs (xr ?_)
 refine lv rfl rfl (va rfl) ?_
 refine ln (qn (xs (xr ?_)))
 refine lv rfl rfl (vm rfl) (lv rfl rfl (vr rfl rfl rfl) ?_)
 obtain ⟨r, a3, H⟩ := H
 refine lv rfl rfl (hv_call TyTA.cb65 (vs := [(.int .u64 (IntKind.u64.wrap (hv + 1)))]) rfl a3) (lv rfl rfl (v := (.int .u64 (ibor .u64 r 1))) (hv_bits rfl rfl rfl) (lv rfl rfl (va rfl) ?_))
 refine ln (qn (xs ?_))
 refine hx_draw TyTA.mixed [.pure, .read, .pure, .pure, .pure, .pure, .pure, .pure, .pure, .pure, .read, .pure, .pure, .pure, .pure] [0, 1, 2, 3, 4, 5, 6, 7, 8, 9, 10, 11, 12, 13, 14] (by kernel_rfl) ?_
 refine pp (i := 0) rfl (wanted_0 rfl) rfl (.int .u64 hv) (fun _ => vm rfl) ?_
 obtain ⟨a0, a5, H⟩ := H
 refine pr (i := 1) rfl (wanted_0 rfl) rfl (.int .u64 a0) (fun _ he => hv_call TyTA.cb65 (vs := [(.int .u64 hv)]) rfl (a5 _ he)) ?_
 refine pp (i := 2) rfl (wanted_0 rfl) rfl (.int .i64 j) (fun _ => vm rfl) ?_
 refine pp (i := 3) rfl (wanted_0 rfl) rfl (.int .u64 (IntKind.u64.wrap j)) (fun _ => hv_convInt TyTA.u3 TyTA.u31 rfl) ?_
 refine pp (i := 4) rfl (wanted_0 rfl) rfl (.int .u64 (ibor .u64 r 1)) (fun _ => vm rfl) ?_
 refine pp (i := 5) rfl (wanted_0 rfl) rfl (.int .u64 (IntKind.u64.wrap ((IntKind.u64.wrap j) * (ibor .u64 r 1)))) (fun _ => vr rfl rfl rfl) ?_
 refine pp (i := 6) rfl (wanted_0 rfl) rfl (.int .u64 (IntKind.u64.wrap (a0 + (IntKind.u64.wrap ((IntKind.u64.wrap j) * (ibor .u64 r 1)))))) (fun _ => vr rfl rfl rfl) ?_
 refine pp (i := 7) rfl (wanted_0 rfl) rfl (ptr a1 a2) (fun _ => vm rfl) ?_
 refine pp (i := 8) rfl (wanted_0 rfl) rfl (ptr a1 a2) (fun _ => hv_nil rfl) ?_
 refine pp (i := 9) rfl (wanted_0 rfl) rfl (ptr a1 a2) (fun _ => vf TyTA.fld56_0 (b := a1) (o := a2) rfl) ?_
 obtain ⟨x, a6, H⟩ := H
 refine pr (i := 10) rfl (wanted_0 rfl) rfl (.int .i64 x) (fun _ he => vl TyTA.agg3 rfl (Ext.cell he a6)) ?_
 refine pp (i := 11) rfl (wanted_0 rfl) rfl (.int .u64 (IntKind.u64.wrap x)) (fun _ => hv_convInt TyTA.u3 TyTA.u31 rfl) ?_
 obtain ⟨a4, H⟩ := H
 refine pp (i := 12) rfl (wanted_0 rfl) rfl (.int .u64 (Int.tmod (IntKind.u64.wrap (a0 + (IntKind.u64.wrap ((IntKind.u64.wrap j) * (ibor .u64 r 1))))) (IntKind.u64.wrap x))) (fun _ => hv_rem rfl rfl a4) ?_
 refine pp (i := 13) rfl (wanted_0 rfl) rfl (.int .i64 (IntKind.i64.wrap (Int.tmod (IntKind.u64.wrap (a0 + (IntKind.u64.wrap ((IntKind.u64.wrap j) * (ibor .u64 r 1))))) (IntKind.u64.wrap x)))) (fun _ => hv_convInt TyTA.u31 TyTA.u3 rfl) ?_
 refine pp (i := 14) rfl (wanted_0 rfl) rfl (.int .i64 (IntKind.i64.wrap (Int.tmod (IntKind.u64.wrap (a0 + (IntKind.u64.wrap ((IntKind.u64.wrap j) * (ibor .u64 r 1))))) (IntKind.u64.wrap x)))) (fun _ => va rfl) ?_
 refine hp_nil ?_
 refine qn (xt ?_)
 exact endQ_ret _ (res_one Try.results51 (rv_tmp rfl)) H
theorem f43_sh (a0 : Nat) (a1 : Nat) (hv : Int) (h : Heap) (R : Value → Heap → Prop)
  (H : (∃ (I1 : Int → Prop) (a8 : Int → Nat), I1 0 ∧ (∀ (j : Int), I1 j → (∃ x : Int, hcell h a0 (a1 + 1) = some (.int .i64 x) ∧ (((decide (j < x)) = true → (∃ r : Int, HC Try.prog 51 #[(ptr a0 a1), (.int .u64 hv), (.int .i64 j)] h (fun vv h' => vv = (.int .i64 r) ∧ h' = h) ∧ (∃ a6 : Option Addr, ∃ a7 b0 : Nat, hcell h a0 (a1 + 2) = some (.slice a6 a7 b0) ∧ (∃ a4 a3 : Nat, a6 = some ⟨a4, a3, none⟩ ∧ (0 : Int) ≤ IntKind.i64.wrap (Int.tdiv r 8) ∧ IntKind.i64.wrap (Int.tdiv r 8) < (a7 : Int) ∧ (∃ a2 : Int, hcell h a4 (a3 + (Int.toNat (IntKind.i64.wrap (Int.tdiv r 8))) * 1) = some (.int .u8 a2) ∧ ((0 : Int) ≤ Int.tmod r 8 ∧ ((((Int.tmod (Int.fdiv a2 (2 ^ min (Int.toNat (Int.tmod r 8)) 8)) 2) == 0) = true → R (.bool false) h) ∧ (((Int.tmod (Int.fdiv a2 (2 ^ min (Int.toNat (Int.tmod r 8)) 8)) 2) == 0) = false → (I1 (IntKind.i64.wrap (j + 1)) ∧ a8 (IntKind.i64.wrap (j + 1)) < a8 j))))))))) ∧ ((decide (j < x)) = false → R (.bool true) h)))))) :
  HC Try.prog 43 #[(ptr a0 a1), (.int .u64 hv)] h R := by
 refine hc_of (args := [(ptr a0 a1), (.int .u64 hv)]) Try.func43 rfl Try.ntmps43 (Nat.le_of_ble_eq_true rfl) ?_
 refine xs (xr ?_)
 refine lv rfl rfl (va rfl) ?_
 refine ln (qn (xs (xs (xr ?_))))
 refine lv rfl rfl (va rfl) ?_
 refine ln (qn (xb ?_))
 obtain ⟨I1, a8, b6, b9⟩ := H
 refine xl (σ := Int) (fun s => [(0, (ptr a0 a1)), (1, (.int .u64 hv)), (5, (.int .i64 s))]) (fun s h' => I1 s ∧ h = h') (fun s _ => a8 s) 0 ⟨b6, rfl⟩ (hc rfl (hc rfl (hc rfl hn))) ?_
 rintro j ρ _ ⟨b8, rfl⟩
 have H := b9 j b8
 refine xs (xs (xr ?_))
 refine lv rfl rfl (vm rfl) (lv rfl rfl (vm rfl) (lv rfl rfl (v := (ptr a0 a1)) (hv_nil rfl) (lv rfl rfl (v := (ptr a0 (a1 + 1))) (vf TyTA.fld56_1 (b := a0) (o := a1) rfl) ?_)))
 obtain ⟨x, c1, H⟩ := H
 refine lv rfl rfl (vl TyTA.agg3 rfl c1) (lv rfl rfl (vr rfl rfl rfl) ?_)
 refine ln (qn ?_)
 refine xc (b := decide (j < x)) rfl (fun a9 => ?_) (fun a9 => ?_)
 ·replace H := H.1 a9
  refine xi (qn (xs (xb (xs (xr ?_)))))
  refine lv rfl rfl (vm rfl) (lv rfl rfl (vm rfl) (lv rfl rfl (vm rfl) ?_))
  obtain ⟨r, b7, H⟩ := H
  refine lv rfl rfl (hv_call TyTA.cb51 (vs := [(ptr a0 a1), (.int .u64 hv), (.int .i64 j)]) rfl b7) (lv rfl rfl (va rfl) ?_)
  refine ln (qn (xs (xr ?_)))
  refine lv rfl rfl (vm rfl) (lv rfl rfl (v := (ptr a0 a1)) (hv_nil rfl) (lv rfl rfl (v := (ptr a0 (a1 + 2))) (vf TyTA.fld56_2 (b := a0) (o := a1) rfl) ?_))
  obtain ⟨a6, a7, b0, c0, H⟩ := H
  refine lv rfl rfl (vl TyTA.agg53 rfl c0) (lv rfl rfl (vm rfl) (lv rfl rfl (v := (.int .i64 (IntKind.i64.wrap (Int.tdiv r 8)))) (hv_quo rfl rfl (by decide)) ?_))
  obtain ⟨a4, a3, b5, b4, b3, Hq⟩ := H
  subst b5
  have H := Hq; clear Hq
  refine lv rfl rfl (v := (ptr a4 (a3 + (Int.toNat (IntKind.i64.wrap (Int.tdiv r 8))) * 1))) (vi TyTA.el53 rfl rfl b4 b3) ?_
  obtain ⟨a2, b2, H⟩ := H
  refine lv rfl rfl (vl TyTA.agg5 rfl b2) (lv rfl rfl (vm rfl) (lv rfl rfl (v := (.int .i64 (Int.tmod r 8))) (hv_rem rfl rfl (by decide)) ?_))
  obtain ⟨b1, H⟩ := H
  refine lv rfl rfl (v := (.int .u8 (Int.fdiv a2 (2 ^ min (Int.toNat (Int.tmod r 8)) 8)))) (hv_shift rfl rfl b1 rfl) (lv rfl rfl (v := (.int .u8 (Int.tmod (Int.fdiv a2 (2 ^ min (Int.toNat (Int.tmod r 8)) 8)) 2))) (hv_rem rfl rfl (by decide)) (lv rfl rfl (vr rfl rfl rfl) ?_))
  refine ln (qn ?_)
  refine xc (b := (Int.tmod (Int.fdiv a2 (2 ^ min (Int.toNat (Int.tmod r 8)) 8)) 2) == 0) rfl (fun a5 => ?_) (fun a5 => ?_)
  ·replace H := H.1 a5
   refine xs (xr ?_)
   refine lv rfl rfl (va rfl) ?_
   refine ln (qn (xt (br (qr (qr (br (qr ?_)))))))
   exact endQ_ret _ (res_one Try.results43 (rv_tmp rfl)) H
  ·replace H := H.2 a5
   refine xi (bn (qn (xr ?_)))
   refine lv rfl rfl (vm rfl) (lv rfl rfl (vr rfl rfl rfl) (lv rfl rfl (va rfl) ?_))
   refine ln (qn ?_)
   exact ⟨IntKind.i64.wrap (j + 1), ⟨⟨H.1, rfl⟩, H.2⟩, (hc rfl (hc rfl (hc rfl hn)))⟩
 ·replace H := H.2 a9
  refine xe (qe (qe (bh (qn (xs (xr ?_))))))
  refine lv rfl rfl (va rfl) ?_
  refine ln (qn (xt ?_))
  exact endQ_ret _ (res_one Try.results43 (rv_tmp rfl)) H
end Go.Proofs.Ytcdpapdefdnknaa
