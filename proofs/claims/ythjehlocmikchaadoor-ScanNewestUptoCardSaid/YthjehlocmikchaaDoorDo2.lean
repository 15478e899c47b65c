import Derived.Laws.BytesString
import Derived.Test.YthjehlocmikchaaDoorProg
import Derived.Test.YthjehlocmikchaaDoorDo1
namespace Go.Proofs.YthjehlocmikchaaDoor
open Go
abbrev eB : Elt Int := eInt .u8
def toL (s : ByteArray) : List Int := s.data.toList.map fun b => (b.toNat : Int)
def ofL (L : List Int) : ByteArray := ⟨(L.map fun n => UInt8.ofNat n.toNat).toArray⟩
theorem toL_len (s : ByteArray) : (toL s).length = s.size := by unfold toL; rw [List.length_map]; rfl
def isB (L : List Int) : Prop := ∀ x ∈ L, 0 ≤ x ∧ x < 256
theorem toL_isB (s : ByteArray) : isB (toL s) := fun x hx => by
  obtain ⟨b, _, rfl⟩ := List.mem_map.1 hx
  have := b.toNat_lt; omega
theorem ofL_toL (s : ByteArray) : ofL (toL s) = s := by
  apply ba_ext
  simp only [ofL, toL, List.map_map]
  conv => rhs; rw [← List.map_id s.data.toList]
  apply List.map_congr_left
  intro b _
  simp
theorem toL_ofL {L : List Int} (h : isB L) : toL (ofL L) = L := by
  simp only [ofL, toL, List.map_map]
  conv => rhs; rw [← List.map_id L]
  apply List.map_congr_left
  intro x hx
  have := h x hx
  simp only [Function.comp_apply, UInt8.toNat_ofNat', id_eq]
  omega
section
variable {P : Program} {ρ : Regs} {h : Heap} {d : Option Nat} {ty : TypeId} {p : String} {af : Array Edge} {g : Option (Nat × Bool)}
def ibV (op : BinOp) (k : IntKind) (x y : Int) : Option Int :=
  match op with
  | .and => some (k.wrap (BitVec.ofInt k.bits x &&& BitVec.ofInt k.bits y).toNat)
  | .or => some (k.wrap (BitVec.ofInt k.bits x ||| BitVec.ofInt k.bits y).toNat)
  | .xor => some (k.wrap (BitVec.ofInt k.bits x ^^^ BitVec.ofInt k.bits y).toNat)
  | .andNot => some (k.wrap (BitVec.ofInt k.bits x &&& ~~~ BitVec.ofInt k.bits y).toNat)
  | _ => none
def iband (k : IntKind) (x y : Int) : Int := k.wrap (BitVec.ofInt k.bits x &&& BitVec.ofInt k.bits y).toNat
def ibor (k : IntKind) (x y : Int) : Int := k.wrap (BitVec.ofInt k.bits x ||| BitVec.ofInt k.bits y).toNat
def ibxor (k : IntKind) (x y : Int) : Int := k.wrap (BitVec.ofInt k.bits x ^^^ BitVec.ofInt k.bits y).toNat
def ibandNot (k : IntKind) (x y : Int) : Int := k.wrap (BitVec.ofInt k.bits x &&& ~~~ BitVec.ofInt k.bits y).toNat
theorem hv_bits {op : BinOp} {t t' : TypeId} {x y : Operand} {k : IntKind} {a b v : Int} (hx : ev ρ x = .int k a) (hy : ev ρ y = .int k b) (hv : ibV op k a b = some v) : HVal P ρ ⟨d, .binOp op t x y t', ty, p, af, g⟩ h (.int k v) :=
  hv_of fun w _ => by
    cases op <;> simp only [ibV, Option.some.injEq, reduceCtorEq] at hv <;> subst hv <;> simp [execOp, hx, hy, go_sem, eqGuard, binOp, Op.intBits]
theorem hv_unXor {t : TypeId} {x : Operand} {k : IntKind} {n m : Int} (hx : ev ρ x = .int k n) (hm : (if k.signed then -1 else k.max) = m) : HVal P ρ ⟨d, .unOp .xor t x, ty, p, af, g⟩ h (.int k (ibxor k m n)) :=
  hv_of fun w _ => by
    subst hm
    simp [execOp, hx, go_sem, Op.unary, Op.intBits, ibxor]
def elA (P : Program) (t : TypeId) : Option (Nat × Nat) := match P.underlying t with | some (.array n e) => (szB P e).map fun z => (n, z) | _ => none
theorem hv_indexA {t : TypeId} {x y : Operand} {b o n sz : Nat} {k : IntKind} {i : Int} (he : elA P t = some (n, sz)) (hx : ev ρ x = ptr b o) (hy : ev ρ y = .int k i) (h0 : 0 ≤ i) (h1 : i < n) : HVal P ρ ⟨d, .indexAddr t x y, ty, p, af, g⟩ h (ptr b (o + i.toNat * sz)) :=
  hv_of fun w _ => by
    unfold elA at he
    split at he <;> try cases he
    rename_i n' e hu
    cases hz : szB P e with
    | none => rw [hz] at he; cases he
    | some z =>
      rw [hz] at he
      simp only [Option.map_some, Option.some.injEq, Prod.mk.injEq] at he
      obtain ⟨rfl, rfl⟩ := he
      simp [execOp, hx, hy, ptr, go_sem, Instr.indexAt, Instr.sureAddr, asIntOf, run_underlying hu, h0, h1, run_sizeOf hz, add_lit]
theorem foldl_push (ns : List Int) : ∀ r : ByteArray, ns.foldl (fun r n => r.push (UInt8.ofNat n.toNat)) r = ⟨r.data ++ (ns.map fun n => UInt8.ofNat n.toNat).toArray⟩ := by
  induction ns with
  | nil => intro r; simp
  | cons n ns ih => intro r; simp only [List.foldl_cons]; rw [ih]; simp [ByteArray.push]
def Byt (h : Heap) (a : Option Addr) (n : Nat) (L : List Int) : Prop := L.length = n ∧ (n = 0 ∨ ∃ b o, a = some ⟨b, o, none⟩ ∧ HCells h b o (L.map (Value.int .u8)))
theorem Sl.byt {a : Option Addr} {c : Nat} {L : List Int} (s : Sl eB h a c L) : Byt h a L.length L := by
  refine ⟨rfl, ?_⟩
  cases hl : L with
  | nil => exact .inl rfl
  | cons y L' =>
    obtain ⟨b, o, e, hc⟩ := s.addr (by rw [hl]; simp)
    rw [← hl]
    refine .inr ⟨b, o, e, HCells.mk fun j v hj => ?_⟩
    rw [List.getElem?_map] at hj
    cases hx : L[j]? with
    | none => rw [hx] at hj; simp at hj
    | some x =>
      rw [hx] at hj; simp at hj; subst hj
      have := (hc j x hx).get (j := 0) (v := .int .u8 x) rfl
      have k1 : eB.k = 1 := rfl
      rw [k1, Nat.mul_one] at this
      simpa using this
theorem Byt.ext {h h' : Heap} (he : Ext h h') {a : Option Addr} {n : Nat} {L : List Int} (b : Byt h a n L) : Byt h' a n L :=
  ⟨b.1, b.2.imp id fun ⟨q, o, e, hc⟩ => ⟨q, o, e, HCells.mk fun _ _ hj => he.cell (hc.get hj)⟩⟩
theorem hv_b2s {src dst e : TypeId} {x : Operand} {a : Option Addr} {n c : Nat} {L : List Int} (hs : P.underlying src = some (.slice e)) (he : P.underlying e = some (.int .u8)) (hd : P.underlying dst = some .string)
    (hx : ev ρ x = .slice a n c) (hb : Byt h a n L) : HVal P ρ ⟨d, .convert src dst x, ty, p, af, g⟩ h (.string (ofL L)) :=
  hv_of fun w hw => by
    obtain ⟨hl, hn⟩ := hb
    have key : (convert src dst (.slice a n c)).run P w = .ok (.string (ofL L)) w := by
      rw [run_convert_bytes_string w src dst e a n c hs he hd]
      cases a with
      | none =>
        have : L = [] := by
          rcases hn with h0 | ⟨b, o, e, _⟩
          · exact List.eq_nil_of_length_eq_zero (by omega)
          · cases e
        subst this
        simp [Conv.bytesToString, go_sem, ofL]; rfl
      | some ad =>
        have hload : (loadCells ad n).run P w = .ok (L.map (Value.int .u8)).toArray w := by
          rcases hn with h0 | ⟨b, o, e, hc⟩
          · have : L = [] := List.eq_nil_of_length_eq_zero (by omega)
            subst this; subst h0
            simp [loadCells, loadCellsFrom, go_sem]
          · cases e
            have := run_loadFrom (P := P) w b o (L.map (Value.int .u8)) 0 #[] (by rw [hw]; exact hc)
            simp only [Array.empty_append, List.length_map, hl] at this
            exact this
        rw [run_bytesToString w ad n c L hload, foldl_push]
        congr 1
        simp [ofL]
    simp only [execOp, hx, Sem.run_bind, key, Result.andThen_ok, Sem.run_pure]
def hfrz (h : Heap) (b n : Nat) : Heap := h.modify b fun
  | .cells c elem (lo, hi) => .cells c elem (if lo == hi then (n, n + 1) else (min lo n, max hi (n + 1)))
  | o => o
theorem hfrz_row {b n : Nat} {cs : Array Value} {T : TypeId} (r : h[b]? = some (.cells cs T (0, 0))) : (hfrz h b n)[b]? = some (.cells cs T (n, n + 1)) := by
  unfold hfrz; rw [Array.getElem?_modify]; simp [r]
theorem hfrz_ne {b b' n : Nat} (hb : b' ≠ b) : (hfrz h b n)[b']? = h[b']? := by
  unfold hfrz; rw [Array.getElem?_modify, if_neg (Ne.symm hb)]
theorem hfrz_size {b n : Nat} : (hfrz h b n).size = h.size := by unfold hfrz; simp
theorem HG.hfrz (h : Heap) (b n : Nat) : HG h (hfrz h b n) := ⟨by rw [hfrz_size]; exact Nat.le_refl _, fun i hi => by
  unfold Go.Proofs.YthjehlocmikchaaDoor.hfrz; rw [Array.getElem?_modify]
  split
  · rename_i e; subst e; rw [hi]; rfl
  · exact hi⟩
theorem fr_hfrz (S : Nat → Prop) {b n : Nat} (hS : b < h.size → S b) : Fr S h (hfrz h b n) :=
  ⟨Nat.le_of_eq hfrz_size.symm, fun i hi hn => hfrz_ne fun e => hn (by subst e; exact hS hi)⟩
theorem run_markS {w : World} {b o n : Nat} {cs : Array Value} {T : TypeId} (r : w.heap[b]? = some (.cells cs T (0, 0))) (hn : n = cs.size) : (markStringish ⟨b, o, none⟩).run P w = .ok () { w with heap := hfrz w.heap b n } := by
  subst hn
  have hs : w.shape? b = some (T, cs.size) := by unfold World.shape?; rw [r]
  unfold markStringish
  simp only [Sem.run_bind, run_shape, Result.andThen_ok, hs, run_freeze]
  congr 1
theorem hs_mark {t e : TypeId} {x : Operand} {b n c : Nat} {cs : Array Value} {T : TypeId} {K : Value → Heap → Prop} (hd : P.underlying t = some (.slice e)) (he : P.underlying e = some (.int .u8)) (hx : ev ρ x = .slice (some ⟨b, 0, none⟩) n c) (r : h[b]? = some (.cells cs T (0, 0)))
    (hk : ∀ h', h' = hfrz h b cs.size → K (.slice (some ⟨b, 0, none⟩) n c) h') : HStep P ρ ⟨d, .convert t t x, ty, p, af, g⟩ h K := by
  intro w hw
  subst hw
  have hc : (convert t t (.slice (some ⟨b, 0, none⟩) n c)).run P w = .ok (.slice (some ⟨b, 0, none⟩) n c) { w with heap := hfrz w.heap b cs.size } := by
    simp [convert, run_underlying hd, run_underlying he]
    rw [run_markS r rfl]; rfl
  simp only [execOp, hx, Sem.run_bind, hc, Result.andThen_ok, Sem.run_pure]
  exact ⟨⟨rfl, rfl, rfl, Nat.le_refl _, HG.hfrz _ _ _⟩, hk _ rfl⟩
theorem hs_s2b {src dst e : TypeId} {x : Operand} {s : ByteArray} {K : Value → Heap → Prop} (hs : P.underlying src = some .string) (hd : P.underlying dst = some (.slice e)) (he : P.underlying e = some (.int .u8)) (hx : ev ρ x = .string s) (h63 : s.size < 9223372036854775807)
    (hk : ∀ b cap h', b = h.size → s.size ≤ cap → cap ≤ 9223372036854775807 → h' = h.push (.cells ((toL s).map (Value.int .u8) ++ List.replicate (cap - s.size) (Value.int .u8 0)).toArray e (cap, cap + 1)) → K (.slice (some ⟨b, 0, none⟩) s.size cap) h') :
    HStep P ρ ⟨d, .convert src dst x, ty, p, af, g⟩ h K := by
  intro w hw
  subst hw
  have hcm : grownCap w s.size 0 e ≤ 9223372036854775807 := by
    have hlt := Nat.mod_lt (w.tape w.drawn (.appendCap s.size 0 e)) (show 0 < 2 ^ 63 - s.size by omega)
    simp only [grownCap, Question.cut]
    omega
  have hcg : s.size ≤ grownCap w s.size 0 e := by simp [grownCap, Question.cut]
  have hrow : ∀ cap, s.size ≤ cap → (s.data.map (fun b => Value.int .u8 b.toNat) ++ Array.replicate (cap - s.size) (Value.int .u8 0)) = ((toL s).map (Value.int .u8) ++ List.replicate (cap - s.size) (Value.int .u8 0)).toArray := fun cap _ => by
    apply Array.ext'
    simp [toL]
  have hsz : ∀ cap, s.size ≤ cap → (((toL s).map (Value.int .u8) ++ List.replicate (cap - s.size) (Value.int .u8 0)).toArray).size = cap := fun cap hc => by
    simp [toL_len]; omega
  have hpush : ∀ (H : Heap) cs T n, (hfrz (H.push (.cells cs T (0, 0))) H.size n) = H.push (.cells cs T (n, n + 1)) := fun H cs T n => by
    apply Array.ext (by simp [hfrz])
    intro i h1 h2
    simp only [hfrz, Array.getElem_modify, Array.getElem_push]
    split
    · rename_i e; subst e; simp
    · rename_i e
      have h3 : i < H.size := by simp at h2; omega
      rw [dif_pos h3, dif_pos h3]
  have hc : (convert src dst (.string s)).run P w = .ok (.slice (some ⟨w.heap.size, 0, none⟩) s.size (grownCap w s.size 0 e)) { w with drawn := w.drawn + 1, heap := w.heap.push (.cells ((toL s).map (Value.int .u8) ++ List.replicate (grownCap w s.size 0 e - s.size) (Value.int .u8 0)).toArray e (grownCap w s.size 0 e, grownCap w s.size 0 e + 1)) } := by
    simp [convert, run_underlying hs, run_underlying hd, run_underlying he, Conv.stringToBytes, newRow, go_sem]
    rw [show ((Question.appendCap s.size 0 e).cut (w.tape w.drawn (Question.appendCap s.size 0 e))) = grownCap w s.size 0 e from rfl, hrow _ hcg]
    have r : (w.alloc (.cells ((toL s).map (Value.int .u8) ++ List.replicate (grownCap w s.size 0 e - s.size) (Value.int .u8 0)).toArray e)).drew.heap[w.heap.size]? = some (.cells ((toL s).map (Value.int .u8) ++ List.replicate (grownCap w s.size 0 e - s.size) (Value.int .u8 0)).toArray e (0, 0)) := push_new rfl
    rw [run_markS r (hsz _ hcg).symm]
    simp only [Result.andThen_ok]
    have := hpush w.heap ((toL s).map (Value.int .u8) ++ List.replicate (grownCap w s.size 0 e - s.size) (Value.int .u8 0)).toArray e (grownCap w s.size 0 e)
    rw [← this]; rfl
  simp only [execOp, hx, Sem.run_bind, hc, Result.andThen_ok, Sem.run_pure]
  exact ⟨⟨rfl, rfl, rfl, Nat.le_succ _, HG.push _ _⟩, hk _ _ _ rfl hcg hcm rfl⟩
end
end Go.Proofs.YthjehlocmikchaaDoor
namespace Go.Proofs.YthjehlocmikchaaDoor
open Go
theorem HW_fz {h : Heap} {b o : Nat} {c : Array Value} {T : TypeId} {fr : Nat × Nat} (hr : h[b]? = some (.cells c T fr)) (hz : c.size ≤ fr.1 ∨ fr.2 ≤ fr.1) (ho : o < c.size) : HW h b o := ⟨c, T, fr, hr, ho, by omega⟩
def OwnF (k : Nat) (T : TypeId) (N : Nat) (h : Heap) (a : Option Addr) (c : Nat) : Prop :=
  (a = none ∧ c = 0) ∨ ∃ b o cs fr, a = some ⟨b, o, none⟩ ∧ N ≤ b ∧ h[b]? = some (.cells cs T fr) ∧ o + c * k ≤ cs.size ∧ (cs.size ≤ fr.1 ∨ fr.2 ≤ fr.1)
section
variable {α : Type} {E : Elt α} {h h' : Heap} {a : Option Addr} {c : Nat} {L : List α} {k : Nat} {T : TypeId} {N : Nat}
theorem Own.fz (w : Own k T N h a c) : OwnF k T N h a c := w.imp id fun ⟨b, o, cs, e, h1, h2, h3⟩ => ⟨b, o, cs, (0, 0), e, h1, h2, h3, .inr (Nat.le_refl _)⟩
theorem OwnF.nil (k : Nat) (T : TypeId) (N : Nat) (h : Heap) : OwnF k T N h none 0 := .inl ⟨rfl, rfl⟩
theorem OwnF.fr {S : Nat → Prop} (s : OwnF k T N h a c) (f : Fr S h h') (hn : ∀ b, blkA a b → ¬ S b) : OwnF k T N h' a c :=
  s.imp id fun ⟨b, o, cs, fr, e, h1, h2, h3, h4⟩ => ⟨b, o, cs, fr, e, h1, f.row h2 (hn b (blkA_of e)), h3, h4⟩
theorem OwnF.ext (s : OwnF k T N h a c) (f : Ext h h') : OwnF k T N h' a c := s.fr (f.fr (fun _ => False)) (fun _ _ h => h)
theorem OwnF.low (s : OwnF k T N h a c) {b : Nat} (hb : blkA a b) : N ≤ b ∧ b < h.size := by
  rcases s with ⟨e, _⟩ | ⟨b', o, cs, fr, e, h1, h2, h3, _⟩
  · rw [e] at hb; exact (blkA_none hb).elim
  · rw [e, blkA_some] at hb; subst hb; exact ⟨h1, row_lt h2⟩
theorem OwnF.down {N' : Nat} (s : OwnF k T N h a c) (hN : N' ≤ N) : OwnF k T N' h a c :=
  s.imp id fun ⟨b, o, cs, fr, e, h1, h2⟩ => ⟨b, o, cs, fr, e, Nat.le_trans hN h1, h2⟩
theorem OwnF.hsets (w : OwnF k T N h a c) (b o : Nat) (vs : List Value) : OwnF k T N (hsets h b o vs) a c := by
  rcases w with e | ⟨b', o', cs, fr, e, h1, h2, h3, h4⟩
  · exact .inl e
  · by_cases hb : b' = b
    · subst hb
      exact .inr ⟨b', o', _, fr, e, h1, hsets_row vs h2, by rw [sets_size]; exact h3, by rw [sets_size]; exact h4⟩
    · exact .inr ⟨b', o', cs, fr, e, h1, (hsets_ne vs hb).trans h2, h3, h4⟩
theorem OwnF.row {b o : Nat} (w : OwnF k T N h (some ⟨b, o, none⟩) c) : ∃ cs fr, h[b]? = some (.cells cs T fr) ∧ o + c * k ≤ cs.size ∧ N ≤ b ∧ (cs.size ≤ fr.1 ∨ fr.2 ≤ fr.1) := by
  rcases w with ⟨e, _⟩ | ⟨b', o', cs, fr, e, h1, h2, h3, h4⟩
  · cases e
  · cases e; exact ⟨cs, fr, h2, h3, h1, h4⟩
theorem app_src {P : Program} {t u : TypeId} {by_ : Nat} (A : AppT P t T E.k by_) {x : Value} {L2 : List α} (s : Sl E h a c L) (w : OwnF E.k T N h a c) (hN : N ≤ h.size) (hsz : (L.length + L2.length) * by_ ≤ 140737488355328)
    (room : ∀ {b o n c' : Nat} {K : Value → Heap → Prop}, n + L2.length ≤ c' → (∀ j, j < (L2.flatMap E.enc).length → HW h b (o + n * E.k + j)) → K (.slice (some ⟨b, o, none⟩) (n + L2.length) c') (Go.Proofs.YthjehlocmikchaaDoor.hsets h b (o + n * E.k) (L2.flatMap E.enc)) → HAppend P t u (.slice (some ⟨b, o, none⟩) n c') x h K)
    (zero : ∀ {a : Option Addr} {n c' : Nat} {K : Value → Heap → Prop}, L2 = [] → n ≤ c' → K (.slice a n c') h → HAppend P t u (.slice a n c') x h K)
    (grow : ∀ {a : Option Addr} {n c' : Nat} {z : Value} {zs olds : List Value} {K : Value → Heap → Prop}, zeroB P T z → z.cells = zs.toArray → Src h (.slice a n c') n E.k olds → c' < n + L2.length → (n + L2.length) * by_ ≤ 140737488355328 → n + L2.length ≤ 9223372036854775807 →
      (∀ b cap h', b = h.size → n + L2.length ≤ cap → cap ≤ 9223372036854775807 → h' = h.push (.cells (olds ++ L2.flatMap E.enc ++ (Builtin.zeroCells zs.toArray (cap - (n + L2.length))).toList).toArray T) → K (.slice (some ⟨b, 0, none⟩) (n + L2.length) cap) h') → HAppend P t u (.slice a n c') x h K)
    {K : Value → Heap → Prop}
    (hk : ∀ a' c' h', Fr (blkA a) h h' → Sl E h' a' c' (L ++ L2) → OwnF E.k T N h' a' c' → (∀ b, blkA a' b → blkA a b ∨ h.size ≤ b) → K (.slice a' (L.length + L2.length) c') h') :
    HAppend P t u (.slice a L.length c) x h K := by
  obtain ⟨hu, hz, hby, ⟨z, zs, hzv, hzc, hzl⟩, hb0⟩ := A
  by_cases hroom : L.length + L2.length ≤ c
  · rcases w with ⟨e1, e2⟩ | ⟨b, o, cs, fr, rfl, hlow, hr, hcs, hfz⟩
    · have e3 : L.length = 0 := by omega
      have e4 : L2.length = 0 := by omega
      have el : L = [] := List.length_eq_zero_iff.1 e3
      have el2 : L2 = [] := List.length_eq_zero_iff.1 e4
      subst el; subst el2; subst e1; subst e2
      exact zero rfl (Nat.le_refl _) (hk _ _ _ (Fr.refl _ _) (by simpa using s) (OwnF.nil _ _ _ _) (fun b hb => .inl hb))
    · have hfit : (L.length + L2.length) * E.k ≤ c * E.k := Nat.mul_le_mul_right _ hroom
      rw [Nat.add_mul] at hfit
      refine room hroom (fun j hj => HW_fz hr hfz ?_) ?_
      · rw [flat_len] at hj; omega
      have hrow : (Go.Proofs.YthjehlocmikchaaDoor.hsets h b (o + L.length * E.k) (L2.flatMap E.enc))[b]? = some (.cells (sets cs (o + L.length * E.k) (L2.flatMap E.enc)) T fr) := hsets_row _ hr
      have hget := sets_get (L2.flatMap E.enc) cs (o + L.length * E.k)
      refine hk _ _ _ (fr_hsets _ fun _ => blkA_of rfl) (Sl.of_row hrow (by simpa using hroom) fun j v hv => ?_) (.inr ⟨b, o, _, fr, rfl, hlow, hrow, by rw [sets_size]; exact hcs, by rw [sets_size]; exact hfz⟩) (fun b hb => .inl hb)
      rw [hget _ (by rw [flat_len]; omega)]
      rw [List.flatMap_append] at hv
      have hl1 := flat_len E L
      by_cases hj : j < L.length * E.k
      · rw [if_neg (by omega)]
        rw [List.getElem?_append_left (by omega)] at hv
        have := s.src.2
        rcases this with ⟨_, _, _, e⟩ | ⟨b', o', c', e, hc⟩
        · rw [e] at hj; omega
        · cases e
          have := hc j v hv
          rw [hcell_row hr] at this; exact this
      · rw [List.getElem?_append_right (by omega), hl1] at hv
        have h2 := (List.getElem?_eq_some_iff.1 hv).1
        rw [if_pos (by omega)]
        rw [show o + j - (o + L.length * E.k) = j - L.length * E.k by omega]; exact hv
  · have h47 : L.length + L2.length ≤ 140737488355328 := Nat.le_trans (Nat.le_mul_of_pos_right _ hb0) hsz
    refine grow hzv hzc s.src (by omega) hsz (by omega) ?_
    intro b cap h' eb h1 h2 eh
    have hrow := push_new (h := h) (o := .cells (L.flatMap E.enc ++ L2.flatMap E.enc ++ (Builtin.zeroCells zs.toArray (cap - (L.length + L2.length))).toList).toArray T) eb
    rw [← eh] at hrow
    have hx : Ext h h' := by rw [eh]; exact Ext.push _ _
    refine hk _ _ _ (hx.fr _) (Sl.of_row hrow (by simpa using h1) fun j v hv => ?_) (.inr ⟨b, 0, _, (0, 0), rfl, by omega, hrow, ?_, .inr (Nat.le_refl _)⟩) (fun b' hb' => .inr ?_)
    · rw [Nat.zero_add, List.getElem?_toArray, ← List.flatMap_append]
      rw [List.getElem?_append_left (List.getElem?_eq_some_iff.1 hv).1]; exact hv
    · have e1 := flat_len E L
      have e2 := flat_len E L2
      have e3 : (Builtin.zeroCells zs.toArray (cap - (L.length + L2.length))).size = (cap - (L.length + L2.length)) * E.k := by
        unfold Builtin.zeroCells; simp [hzl]
      have e4 : cap * E.k = (L.length + L2.length) * E.k + (cap - (L.length + L2.length)) * E.k := by rw [← Nat.add_mul]; congr 1; omega
      simp only [List.size_toArray, List.length_append, e1, e2, Array.length_toList, e3, Nat.zero_add, e4, Nat.add_mul]
      exact Nat.le_refl _
    · rw [blkA_some] at hb'; omega
theorem app_fz {P : Program} {t : TypeId} {by_ : Nat} (A : AppT P t T E.k by_) {a2 : Option Addr} {c2 : Nat} {L2 : List α} (s : Sl E h a c L) (w : OwnF E.k T N h a c) (s2 : Sl E h a2 c2 L2) (hN : N ≤ h.size) (hsz : (L.length + L2.length) * by_ ≤ 140737488355328) {K : Value → Heap → Prop}
    (hk : ∀ a' c' h', Fr (blkA a) h h' → Sl E h' a' c' (L ++ L2) → OwnF E.k T N h' a' c' → (∀ b, blkA a' b → blkA a b ∨ h.size ≤ b) → K (.slice a' (L.length + L2.length) c') h') :
    HAppend P t t (.slice a L.length c) (.slice a2 L2.length c2) h K :=
  app_src A s w hN hsz (fun hr hw hk => happ_room A.hu A.hz s2.src hr (flat_one E L2) hw hk) (fun e hn hk' => by subst e; exact happ_zero A.hu A.hz (by simpa using s2.src) hn hk')
    (fun hzv hzc hs hr h47 h63 hk => happ_grow A.hu A.hz A.hby hzv hzc hs s2.src hr h47 h63 hk) hk
theorem str_first {P : Program} {w : World} (s : ByteArray) : (Builtin.firstCells 1 s.size (.string s)).run P w = .ok ((toL s).map (Value.int .u8)).toArray w := by
  simp [Builtin.firstCells, go_sem, toL]
  apply Array.ext'
  simp
theorem str_len {P : Program} {w : World} (s : ByteArray) : (Builtin.lenOf (.string s)).run P w = .ok s.size w := by simp [Builtin.lenOf, go_sem]
theorem happS_room {P : Program} {h : Heap} {t u e : TypeId} (hu : P.underlying t = some (.slice e)) (hu2 : P.underlying u = some .string) (hz : szB P e = some 1) {b o n c : Nat} {s : ByteArray} (hroom : n + s.size ≤ c)
    (hW : ∀ j, j < s.size → HW h b (o + n * 1 + j)) {K : Value → Heap → Prop} (hk : K (.slice (some ⟨b, o, none⟩) (n + s.size) c) (Go.Proofs.YthjehlocmikchaaDoor.hsets h b (o + n * 1) ((toL s).map (Value.int .u8)))) : HAppend P t u (.slice (some ⟨b, o, none⟩) n c) (.string s) h K := by
  intro ty w hw
  subst hw
  refine ⟨_, { w with heap := Go.Proofs.YthjehlocmikchaaDoor.hsets w.heap b (o + n * 1) ((toL s).map (Value.int .u8)) }, ?_, ⟨rfl, rfl, rfl, Nat.le_refl _, HG.hsets _ _ _ _⟩, hk⟩
  have hst := run_storeCells (P := P) (b := b) (o := o + n * 1) ((toL s).map (Value.int .u8)) 0 w (fun v hv => by obtain ⟨x, _, rfl⟩ := List.mem_map.1 hv; rfl) (by simpa [toL_len] using hW)
  simp only [Nat.add_zero] at hst
  have hf := str_first (P := P) (w := w) s
  simp [Builtin.append_, run_underlying hu, run_underlying hu2, run_sizeOf hz, str_len, hroom, hf, add_lit]
  simp at hst
  rw [hst]; rfl
theorem happS_zero {P : Program} {h : Heap} {t u e : TypeId} (hu : P.underlying t = some (.slice e)) (hu2 : P.underlying u = some .string) (hz : szB P e = some 1) {a : Option Addr} {n c : Nat} {s : ByteArray} (hs : s.size = 0) (hn : n ≤ c) {K : Value → Heap → Prop} (hk : K (.slice a n c) h) : HAppend P t u (.slice a n c) (.string s) h K := by
  intro ty w hw
  subst hw
  refine ⟨_, w, ?_, Sim.refl _, hk⟩
  have hf := str_first (P := P) (w := w) s
  have ht : toL s = [] := List.eq_nil_of_length_eq_zero (by rw [toL_len]; exact hs)
  rw [hs, ht] at hf
  cases a <;> simp [Builtin.append_, run_underlying hu, run_underlying hu2, run_sizeOf hz, str_len, hs, hn, hf, storeCells]
theorem happS_grow {P : Program} {h : Heap} {t u e : TypeId} {by_ : Nat} {zs : List Value} {z : Value} (hu : P.underlying t = some (.slice e)) (hu2 : P.underlying u = some .string) (hz : szB P e = some 1) (hby : byB P e = some by_) (hzv : zeroB P e z) (hzc : z.cells = zs.toArray) {a : Option Addr} {n c : Nat} {s : ByteArray} {olds : List Value}
    (hs : Src h (.slice a n c) n 1 olds) (hroom : c < n + s.size) (h47 : (n + s.size) * by_ ≤ 140737488355328) (h63 : n + s.size ≤ 9223372036854775807) {K : Value → Heap → Prop}
    (hk : ∀ b cap h', b = h.size → n + s.size ≤ cap → cap ≤ 9223372036854775807 → h' = h.push (.cells (olds ++ (toL s).map (Value.int .u8) ++ (Builtin.zeroCells zs.toArray (cap - (n + s.size))).toList).toArray e) → K (.slice (some ⟨b, 0, none⟩) (n + s.size) cap) h') : HAppend P t u (.slice a n c) (.string s) h K := by
  intro ty w hw
  subst hw
  have hi : ∃ i, P.info? e = some i ∧ i.size = 1 ∧ i.bytes = by_ ∧ i.zero = some z := by
    unfold szB at hz; unfold byB at hby; unfold zeroB at hzv
    cases hi : P.info? e with
    | none => rw [hi] at hz; cases hz
    | some i => rw [hi] at hz hby hzv; exact ⟨i, rfl, by simpa using hz, by simpa using hby, by simpa using hzv⟩
  obtain ⟨i, hi, his, hib, hiz⟩ := hi
  have hfit : Builtin.nextslicecap (n + s.size) c * i.bytes ≤ 281474976710656 := by rw [hib]; exact growslice_fits hroom h47
  have hcm : grownCap w (n + s.size) c e ≤ 9223372036854775807 := by
    have hlt := Nat.mod_lt (w.tape w.drawn (.appendCap (n + s.size) c e)) (show 0 < 2 ^ 63 - (n + s.size) by omega)
    simp only [grownCap, Question.cut]
    omega
  have hcg : n + s.size ≤ grownCap w (n + s.size) c e := by simp [grownCap, Question.cut]
  refine ⟨.slice (some ⟨w.heap.size, 0, none⟩) (n + s.size) (grownCap w (n + s.size) c e), { w with drawn := w.drawn + 1, heap := w.heap.push (.cells (olds ++ (toL s).map (Value.int .u8) ++ (Builtin.zeroCells zs.toArray (grownCap w (n + s.size) c e - (n + s.size))).toList).toArray e) }, ?_, ⟨rfl, rfl, rfl, Nat.le_succ _, HG.push _ _⟩, hk _ _ _ rfl hcg hcm rfl⟩
  have hn : ¬ (n + s.size ≤ c) := by omega
  have h63' : ¬ (9223372036854775807 < ((n : Int) + (s.size : Int))) := by omega
  have h48' : ¬ (281474976710656 < Builtin.nextslicecap (n + s.size) c * i.bytes) := by omega
  have hf := str_first (P := P) (w := w.drew) s
  have hfo := Src.first (P := P) (w := w.drew) (x := .slice a n c) (m := n) (size := 1) (news := olds) hs
  simp [Builtin.append_, run_underlying hu, run_underlying hu2, sizeOf, typeInfo, zeroValue, hi, hiz, str_len, hn, h63', h48', Question.forced, his, hf, hfo, newRow, grownCap]
  rw [hzc]
  generalize Builtin.zeroCells zs.toArray _ = Z
  have e1 : olds.toArray ++ (((toL s).map (Value.int .u8)).toArray ++ Z) = (olds ++ ((toL s).map (Value.int .u8) ++ Z.toList)).toArray := by apply Array.ext'; simp
  rw [← e1]
  rfl
theorem flatB (L : List Int) : L.flatMap eB.enc = L.map (Value.int .u8) := by
  induction L with
  | nil => rfl
  | cons x L ih => rw [List.flatMap_cons, ih]; rfl
theorem app_str {P : Program} {h : Heap} {a : Option Addr} {c : Nat} {L : List Int} {T : TypeId} {N : Nat} {t u : TypeId} {by_ : Nat} (A : AppT P t T eB.k by_) (hu2 : P.underlying u = some .string) {x : ByteArray} (s : Sl eB h a c L) (w : OwnF eB.k T N h a c) (hN : N ≤ h.size) (hsz : (L.length + x.size) * by_ ≤ 140737488355328) {K : Value → Heap → Prop}
    (hk : ∀ a' c' h', Fr (blkA a) h h' → Sl eB h' a' c' (L ++ toL x) → OwnF eB.k T N h' a' c' → (∀ b, blkA a' b → blkA a b ∨ h.size ≤ b) → K (.slice a' (L.length + x.size) c') h') :
    HAppend P t u (.slice a L.length c) (.string x) h K := by
  have hl := toL_len x
  refine app_src A (L2 := toL x) s w hN (by rw [hl]; exact hsz) (fun hr hw hk => ?_) (fun e hn hk' => ?_) (fun hzv hzc hs hr h47 h63 hk => ?_) (by rw [hl]; exact hk)
  · rw [hl] at hr hk
    rw [flatB] at hk hw
    exact happS_room A.hu hu2 A.hz hr (fun j hj => hw j (by rw [List.length_map, hl]; exact hj)) hk
  · exact happS_zero A.hu hu2 A.hz (by rw [← hl, e]; rfl) hn hk'
  · rw [hl] at hr h47 h63 hk
    rw [flatB] at hk
    exact happS_grow A.hu hu2 A.hz A.hby hzv hzc hs hr h47 h63 hk
end
def HCopy (P : Program) (t u : TypeId) (s x : Value) (h : Heap) (K : Value → Heap → Prop) : Prop :=
  ∀ (ty : TypeId) (w : World), w.heap = h → ∃ v w', (Builtin.copy_ #[t, u] ty #[s, x]).run P w = .ok v w' ∧ Sim w w' ∧ K v w'.heap
theorem HCopy.mono {P : Program} {t u : TypeId} {s x : Value} {h : Heap} {K K' : Value → Heap → Prop} (ha : HCopy P t u s x h K) (hk : ∀ v h', K v h' → K' v h') : HCopy P t u s x h K' :=
  fun ty w hw => let ⟨v, w', h1, h2, h3⟩ := ha ty w hw; ⟨v, w', h1, h2, hk _ _ h3⟩
theorem hs_copy {P : Program} {ρ : Regs} {h : Heap} {d : Option Nat} {ty : TypeId} {p : String} {af : Array Edge} {g : Option (Nat × Bool)} {t u : TypeId} {x y : Operand} {vx vy : Value} {K : Value → Heap → Prop} (hx : ev ρ x = vx) (hy : ev ρ y = vy) (ha : HCopy P t u vx vy h K) :
    HStep P ρ ⟨d, .call ⟨.builtin .copy, #[x, y], #[t, u]⟩, ty, p, af, g⟩ h K := by
  intro w hw
  obtain ⟨v, w', h1, h2, h3⟩ := ha ty w hw
  have : (execOp (ev ρ) ⟨d, .call ⟨.builtin .copy, #[x, y], #[t, u]⟩, ty, p, af, g⟩).run P w = .ok (.value v) w' := by
    simp only [execOp, resolve, invoke, builtin, Sem.run_bind, Sem.run_pure, Result.andThen_ok, List.map_toArray, List.map_cons, List.map_nil, hx, hy, h1]
  rw [this]
  exact ⟨h2, h3⟩
theorem hcopy_of {P : Program} {h : Heap} {t u e : TypeId} {size n c m c2 q : Nat} {a a2 : Option Addr} {cs : List Value} (hu : P.underlying t = some (.slice e)) (hz : szB P e = some size) (hq : q = Nat.min m n) (hl : cs.length = q * size) (hone : ∀ v ∈ cs, oneC v = true)
    (hr : cs = [] ∨ ∃ b o, a2 = some ⟨b, o, none⟩ ∧ HCells h b o cs) (hw : cs = [] ∨ ∃ b o, a = some ⟨b, o, none⟩ ∧ HWs h b o cs.length) {K : Value → Heap → Prop}
    (hk : ∀ h', (cs = [] → h' = h) → (∀ b o, a = some ⟨b, o, none⟩ → h' = hsets h b o cs) → K (.int .i64 q) h') : HCopy P t u (.slice a n c) (.slice a2 m c2) h K := by
  intro ty w hwd
  subst hwd
  have hf : (Builtin.firstCells size q (.slice a2 m c2)).run P w = .ok cs.toArray w := by
    cases a2 with
    | none =>
      have : cs = [] := by rcases hr with e | ⟨b, o, e, _⟩; exact e; cases e
      subst this
      simp [Builtin.firstCells, go_sem]
    | some ad =>
      have h1 : (loadCells ad (q * size)).run P w = .ok cs.toArray w := by
        rcases hr with e | ⟨b, o, e, hc⟩
        · subst e
          have : q * size = 0 := by rw [← hl]; rfl
          rw [this]; simp [loadCells, loadCellsFrom, go_sem]
        · cases e
          have := run_loadFrom (P := P) w b o cs 0 #[] hc
          simp only [Array.empty_append, hl] at this
          exact this
      simp only [Builtin.firstCells, h1]
  have hlen : (Builtin.lenOf (.slice a2 m c2)).run P w = .ok m w := by simp [Builtin.lenOf, go_sem]
  cases a with
  | none =>
    have : cs = [] := by rcases hw with e | ⟨b, o, e, _⟩; exact e; cases e
    refine ⟨_, w, ?_, Sim.refl _, hk w.heap (fun _ => rfl) fun b o e => by cases e⟩
    simp [Builtin.copy_, run_underlying hu, run_sizeOf hz, hlen, ← hq, hf, goInt]
  | some ad =>
    rcases hw with e | ⟨b, o, e, hW⟩
    · refine ⟨_, w, ?_, Sim.refl _, hk w.heap (fun _ => rfl) fun b o _ => by subst e; rfl⟩
      subst e
      simp [Builtin.copy_, run_underlying hu, run_sizeOf hz, hlen, ← hq, hf, goInt, storeCells]
    · cases e
      have hst := run_storeCells (P := P) (b := b) (o := o) cs 0 w hone (fun j hj => hW j hj)
      simp only [Nat.add_zero] at hst
      refine ⟨_, { w with heap := hsets w.heap b o cs }, ?_, ⟨rfl, rfl, rfl, Nat.le_refl _, HG.hsets _ _ _ _⟩, hk _ (fun e => by subst e; rfl) fun b' o' e => by cases e; rfl⟩
      simp [Builtin.copy_, run_underlying hu, run_sizeOf hz, hlen, ← hq, hf, goInt, hst]
end Go.Proofs.YthjehlocmikchaaDoor
namespace Go.Proofs.YthjehlocmikchaaDoor
open Go
def partV (P : Program) (t : TypeId) (cs : Array Value) (off : Nat) : Option Value :=
  match aggB P t with
  | some true => match szB P t with | some n => some (.agg (cs.extract off (off + n))) | none => none
  | some false => cs[off]?
  | none => none
mutual
def eqD (P : Program) : Nat → TypeId → Value → Value → Option Bool
  | 0, _, _, _ => none
  | n + 1, t, x, y => match P.underlying t, x, y with
    | some (.struct fs), .agg xs, .agg ys => if P.stoodInHeld t then none else eqDs P n fs.toList xs ys
    | _, x, y => if fitsV P t x then eqV x y else none
def eqDs (P : Program) : Nat → List Field → Array Value → Array Value → Option Bool
  | 0, _, _, _ => none
  | _ + 1, [], _, _ => some true
  | n + 1, f :: fs, xs, ys => if f.name == "_" then none else
    match partV P f.type xs f.offset, partV P f.type ys f.offset with
    | some x, some y => match eqD P n f.type x y, eqDs P n fs xs ys with
      | some b, some r => some (b && r)
      | _, _ => none
    | _, _ => none
end
theorem run_partV {P : Program} {t : TypeId} {cs : Array Value} {off : Nat} {v : Value} (w : World) (h : partV P t cs off = some v) : (part t cs off).run P w = .ok v w := by
  unfold partV at h
  split at h
  · rename_i ha
    split at h
    · rename_i n hn
      cases h
      simp only [part, Sem.run_bind, run_isAgg ha, Result.andThen_ok, if_true, run_sizeOf hn, Sem.run_pure]
    · cases h
  · rename_i ha
    simp only [part, Sem.run_bind, run_isAgg ha, Result.andThen_ok, Bool.false_eq_true, if_false, h, Sem.run_pure]
  · cases h
mutual
theorem run_eqD {P : Program} (w : World) : ∀ (n dp : Nat) (t : TypeId) (x y : Value) (b : Bool), n ≤ dp → eqD P n t x y = some b → (Op.equalIn dp t x y).run P w = .ok b w
  | 0, _, _, _, _, _, _, h => by simp [eqD] at h
  | n + 1, dp, t, x, y, b, hd, h => by
    obtain ⟨e, rfl⟩ : ∃ e, dp = e + 1 := ⟨dp - 1, by omega⟩
    unfold eqD at h
    split at h
    · rename_i fs xs ys hu
      split at h
      · cases h
      · rename_i hc
        have hf : P.fieldsOf t = fs := by unfold Program.fieldsOf; rw [hu]
        rw [run_equalIn_struct w e t xs ys (by rw [hf]; exact hu) (by simpa using hc), hf]
        exact run_eqDs w n e fs.toList xs ys b (by omega) h
    · split at h
      · rename_i hf
        exact run_eqOne e w hf h
      · cases h
theorem run_eqDs {P : Program} (w : World) : ∀ (n dp : Nat) (fs : List Field) (xs ys : Array Value) (b : Bool), n ≤ dp → eqDs P n fs xs ys = some b → (Op.eqFields dp xs ys fs).run P w = .ok b w
  | 0, _, _, _, _, _, _, h => by simp [eqDs] at h
  | n + 1, dp, [], xs, ys, b, _, h => by simp [eqDs] at h; subst h; simp [Op.eqFields, go_sem]
  | n + 1, dp, f :: fs, xs, ys, b, hd, h => by
    unfold eqDs at h
    split at h
    · cases h
    rename_i hn
    have hn' : f.name ≠ "_" := by simpa using hn
    split at h <;> try cases h
    rename_i x y hx hy
    split at h <;> try cases h
    rename_i b1 r h1 h2
    have e1 := run_eqD (P := P) w n dp f.type x y b1 (by omega) h1
    have e2 := run_eqDs (P := P) w n dp fs xs ys r (by omega) h2
    simp only [Op.eqFields, ne_eq, hn', not_false_eq_true, if_true, Sem.run_bind, run_partV w hx, run_partV w hy, Result.andThen_ok, e1]
    cases b1
    · simp [go_sem]
    · simp [e2]
end
theorem hv_structEqD {P : Program} {ρ : Regs} {h : Heap} {d : Option Nat} {ty : TypeId} {p : String} {af : Array Edge} {g : Option (Nat × Bool)} {op : BinOp} {t t' : TypeId} {x y : Operand} {xs ys : List Value} {b : Bool} {v : Value} (hg : P.eqGuardType P.depth t = false) (hx : ev ρ x = .agg xs.toArray) (hy : ev ρ y = .agg ys.toArray)
    (he : eqD P 20 t (.agg xs.toArray) (.agg ys.toArray) = some b) (hv : (match op with | .eql => some (Value.bool b) | .neq => some (Value.bool !b) | _ => none) = some v) : HVal P ρ ⟨d, .binOp op t x y t', ty, p, af, g⟩ h v :=
  hv_of fun w _ => by
    have hrun := run_eqD (P := P) w 20 10000 t _ _ b (by omega) he
    have hgd := run_eqGuard_agg (P := P) w op t x y xs.toArray ys.toArray hg
    cases op <;> simp only [Option.some.injEq, reduceCtorEq] at hv
    · have h1 := run_eql_struct (P := P) w t xs.toArray ys.toArray
      rw [hrun] at h1
      simp only [execOp, hx, hy, Sem.run_bind, hgd, Result.andThen_ok, h1, Sem.run_pure, hv]
    · have h1 := run_neq_struct (P := P) w t xs.toArray ys.toArray
      rw [hrun] at h1
      simp only [execOp, hx, hy, Sem.run_bind, hgd, Result.andThen_ok, h1, Sem.run_pure, hv]
end Go.Proofs.YthjehlocmikchaaDoor
namespace Go.Proofs.YthjehlocmikchaaDoor
open Go
inductive PT where
  | done
  | one (i : Nat) (t : PT)
  | fork (is : List Nat) (t : Nat → PT)
def treeB (ops : Array Oper) (anc : List Nat) (ks : List Kd) : Nat → PT → Array Bool → Bool
  | _, .done, l => (Region.ready .any ops l).isEmpty
  | f + 1, .one i t, l => stepB ops anc ks i l && treeB ops anc ks f t (l.setIfInBounds i true)
  | f + 1, .fork is t, l => !is.isEmpty && (Region.ready .any ops l == is) && is.all fun i => treeB ops anc ks f (t i) (l.setIfInBounds i true)
  | 0, _, _ => false
def HOne (P : Program) (ops : Array Oper) (ks : List Kd) (T : Heap → Heap → Prop) (C : Regs → Heap → Prop) (i : Nat) (ρ : Regs) (h : Heap) : Prop :=
  match ops[i]? with
  | none => False
  | some o => if Region.wanted o (yl ops ρ) then (match kdOf ks i with
      | .pure => ∃ v, (∀ h', HVal P ρ o h' v) ∧ C (updo ρ o.dst v) h
      | .read => ∃ v, (∀ h', Ext h h' → HVal P ρ o h' v) ∧ C (updo ρ o.dst v) h
      | .stay => ∃ v, (∀ h', T h h' → HVal P ρ o h' v) ∧ C (updo ρ o.dst v) h
      | k => HStep P ρ o h fun v h' => k.ok T h h' ∧ C (updo ρ o.dst v) h')
    else C (updo ρ o.dst undef) h
def HTree (P : Program) (ops : Array Oper) (ks : List Kd) (T : Heap → Heap → Prop) (Q : Regs → Heap → Prop) : PT → Regs → Heap → Prop
  | .done, ρ, h => Q ρ h
  | .one i t, ρ, h => HOne P ops ks T (HTree P ops ks T Q t) i ρ h
  | .fork is t, ρ, h => ∀ i ∈ is, HOne P ops ks T (HTree P ops ks T Q (t i)) i ρ h
theorem hOp_of_one {P : Program} {ops : Array Oper} {ks : List Kd} {T : Heap → Heap → Prop} (hT : Fit T) {C : Regs → Heap → Prop} {i : Nat} {ρ : Regs} {h : Heap} (hp : HOne P ops ks T C i ρ h) : hOp P ops (fun i => (kdOf ks i).ok T) i C ρ h := by
  unfold HOne at hp
  unfold hOp
  cases ho : ops[i]? with
  | none => rw [ho] at hp; exact hp.elim
  | some o =>
    simp only [ho] at hp
    simp only
    by_cases hw : Region.wanted o (yl ops ρ) = true
    · rw [if_pos hw] at hp ⊢
      cases hk : kdOf ks i with
      | pure => simp only [hk] at hp; obtain ⟨v, hv, hn⟩ := hp; exact HStep.of_val (hv h) ⟨rfl, hn⟩
      | read => simp only [hk] at hp; obtain ⟨v, hv, hn⟩ := hp; exact HStep.of_val (hv h (Ext.refl h)) ⟨rfl, hn⟩
      | stay => simp only [hk] at hp; obtain ⟨v, hv, hn⟩ := hp; exact HStep.of_val (hv h (hT.refl h)) ⟨rfl, hn⟩
      | ext => simp only [hk] at hp; exact hp
      | tame => simp only [hk] at hp; exact hp
      | wild => simp only [hk] at hp; exact hp
    · rw [if_neg hw] at hp ⊢
      exact hp
theorem hAny_step {P : Program} {ops : Array Oper} {ks : List Kd} {T : Heap → Heap → Prop} {Q : Regs → Heap → Prop} (hT : Fit T) (hs : Region.noSelect ops = true) {f i : Nat} {l : Array Bool} {ρ : Regs} {h : Heap} {C : Regs → Heap → Prop}
    (hc : Shut ops l) (hB1 : stepB ops (ancs ops.toList []) ks i l = true) (hC : i ∈ Region.ready .any ops l → ∀ ρ h, C ρ h → HAny P ops (fun i => (kdOf ks i).ok T) Q f (l.setIfInBounds i true) ρ h) (hp : HOne P ops ks T C i ρ h) :
    HAny P ops (fun i => (kdOf ks i).ok T) Q (f + 1) l ρ h := by
  have hp0 := hp
  unfold HOne at hp
  cases ho : ops[i]? with
  | none => rw [ho] at hp; exact hp.elim
  | some o =>
    simp only [ho] at hp
    have first : ∀ (U : Heap → Heap → Prop) (v : Value), (∀ h, U h h) → (∀ a b c, U a b → U b c → U a c) → (Region.ready .any ops l).contains i = true → Region.free .any ops l i = true →
        (∀ j, l.getD j true = false → ¬ Desc ops i j → ∀ h h', (kdOf ks j).ok T h h' → U h h') →
        Yl P ops o v (fun h' => U h h') ρ → C (updo ρ o.dst v) h → HAny P ops (fun i => (kdOf ks i).ok T) Q (f + 1) l ρ h := by
      intro U v hUr hUt hr hf hw hy hn
      have hr' : i ∈ Region.ready .any ops l := by simpa using hr
      exact hAny_first ho (Region.noSelect_spec hs) (fun i h => Kd.ok_refl hT _ h) U hUr hUt f l ρ h hc (Region.free_spec ho hf) hw hr' hy (hC hr' _ _ hn)
    have uP : ∀ v, (Region.ready .any ops l).contains i = true → Region.free .any ops l i = true → Yl P ops o v (fun _ => True) ρ → C (updo ρ o.dst v) h → HAny P ops (fun i => (kdOf ks i).ok T) Q (f + 1) l ρ h :=
      fun v hr hf hy hn => first (fun _ _ => True) v (fun _ => trivial) (fun _ _ _ _ _ => trivial) hr hf (fun _ _ _ _ _ _ => trivial) hy hn
    have uR : ∀ v, (Region.ready .any ops l).contains i = true → Region.free .any ops l i = true → aheadB (fun k => k == .wild || k == .tame) (ancs ops.toList []) ks i l = true → Yl P ops o v (fun h' => Ext h h') ρ → C (updo ρ o.dst v) h → HAny P ops (fun i => (kdOf ks i).ok T) Q (f + 1) l ρ h := by
      intro v hr hf hb hy hn
      refine first Ext v Ext.refl (fun _ _ _ => Ext.trans) hr hf (fun j hun hd h h' hk => ?_) hy hn
      have := aheadB_spec (by rfl) hb hun hd
      exact Kd.ok_ext (fun e => by rw [e] at this; simp at this) (fun e => by rw [e] at this; simp at this) hk
    have uS : ∀ v, (Region.ready .any ops l).contains i = true → Region.free .any ops l i = true → aheadB (fun k => k == .wild) (ancs ops.toList []) ks i l = true → Yl P ops o v (fun h' => T h h') ρ → C (updo ρ o.dst v) h → HAny P ops (fun i => (kdOf ks i).ok T) Q (f + 1) l ρ h := by
      intro v hr hf hb hy hn
      refine first T v hT.refl hT.trans hr hf (fun j hun hd h h' hk => ?_) hy hn
      have := aheadB_spec (by rfl) hb hun hd
      exact Kd.ok_T hT (fun e => by rw [e] at this; simp at this) hk
    have lone : ∀ (_hr : Region.ready .any ops l = [i]), HAny P ops (fun i => (kdOf ks i).ok T) Q (f + 1) l ρ h := by
      intro hr
      refine ⟨fun h => (by rw [hr] at h; cases h), fun j hj => ?_⟩
      rw [hr] at hj
      obtain rfl : j = i := by simpa using hj
      exact hOp_mono (hC (by rw [hr]; simp)) (hOp_of_one hT hp0)
    unfold stepB at hB1
    by_cases hw : Region.wanted o (yl ops ρ) = true
    · simp only [hw, if_true] at hp
      cases hk : kdOf ks i with
      | pure =>
        simp only [hk, Bool.and_eq_true] at hB1 hp
        obtain ⟨v, hv, hn⟩ := hp
        exact uP v hB1.1 hB1.2 (.inl ⟨hw, fun h' _ => hv h'⟩) hn
      | read =>
        simp only [hk, Bool.and_eq_true] at hB1 hp
        obtain ⟨v, hv, hn⟩ := hp
        exact uR v hB1.1.1 hB1.1.2 hB1.2 (.inl ⟨hw, fun h' hh' => hv h' hh'⟩) hn
      | stay =>
        simp only [hk, Bool.and_eq_true] at hB1 hp
        obtain ⟨v, hv, hn⟩ := hp
        exact uS v hB1.1.1 hB1.1.2 hB1.2 (.inl ⟨hw, fun h' hh' => hv h' hh'⟩) hn
      | ext => simp only [hk, beq_iff_eq] at hB1; exact lone hB1
      | tame => simp only [hk, beq_iff_eq] at hB1; exact lone hB1
      | wild => simp only [hk, beq_iff_eq] at hB1; exact lone hB1
    · have hw' : Region.wanted o (yl ops ρ) = false := by simpa using hw
      simp only [hw', Bool.false_eq_true, if_false] at hp
      cases hk : kdOf ks i with
      | pure =>
        simp only [hk, Bool.and_eq_true] at hB1
        exact uP undef hB1.1 hB1.2 (.inr ⟨hw', rfl⟩) hp
      | read =>
        simp only [hk, Bool.and_eq_true] at hB1
        exact uR undef hB1.1.1 hB1.1.2 hB1.2 (.inr ⟨hw', rfl⟩) hp
      | stay =>
        simp only [hk, Bool.and_eq_true] at hB1
        exact uS undef hB1.1.1 hB1.1.2 hB1.2 (.inr ⟨hw', rfl⟩) hp
      | ext => simp only [hk, beq_iff_eq] at hB1; exact lone hB1
      | tame => simp only [hk, beq_iff_eq] at hB1; exact lone hB1
      | wild => simp only [hk, beq_iff_eq] at hB1; exact lone hB1
theorem hAny_of_tree {P : Program} {ops : Array Oper} {ks : List Kd} {T : Heap → Heap → Prop} {Q : Regs → Heap → Prop} (hT : Fit T) (hs : Region.noSelect ops = true) :
    ∀ (t : PT) (f : Nat) (l : Array Bool) (ρ : Regs) (h : Heap), Shut ops l → treeB ops (ancs ops.toList []) ks f t l = true → HTree P ops ks T Q t ρ h → HAny P ops (fun i => (kdOf ks i).ok T) Q f l ρ h := by
  intro t
  induction t with
  | done =>
    intro f l ρ h hc hB hp
    have hr : Region.ready .any ops l = [] := by cases f <;> simpa [treeB] using hB
    cases f with
    | zero => exact ⟨hr, hp⟩
    | succ f => exact ⟨fun _ => hp, fun i hi => by rw [hr] at hi; cases hi⟩
  | one i t ih =>
    intro f l ρ h hc hB hp
    cases f with
    | zero => simp [treeB] at hB
    | succ f =>
      simp only [treeB, Bool.and_eq_true] at hB
      exact hAny_step hT hs hc hB.1 (fun hi ρ' h' hn => ih f _ ρ' h' (hc.set hi) hB.2 hn) hp
  | fork is t ih =>
    intro f l ρ h hc hB hp
    cases f with
    | zero => simp [treeB] at hB
    | succ f =>
      simp only [treeB, Bool.and_eq_true, beq_iff_eq, List.all_eq_true] at hB
      obtain ⟨⟨hne, hB⟩, hall⟩ := hB
      replace hB := And.intro hB hall
      cases his : is with
      | nil =>
        rw [his] at hne; simp at hne
      | cons i0 is' =>
        refine ⟨fun hr => (by rw [hB.1, his] at hr; cases hr), fun i hi => ?_⟩
        have hi' := hi
        rw [hB.1] at hi'
        exact hOp_mono (fun ρ' h' hn => ih i f _ ρ' h' (hc.set hi) (hB.2 i hi') hn) (hOp_of_one hT (hp i hi'))
def regT (n : Nat) (ops : Array Oper) (ks : List Kd) (t : PT) : Bool :=
  Region.noSelect ops && ops.all (dstB n) && treeB ops (ancs ops.toList []) ks ops.size t (Array.replicate ops.size false)
theorem hx_tree {m : Mo} {P : Program} {n : Nat} {Q : Exit → Regs → Heap → Prop} {ρ : Regs} {h : Heap} {id : Nat} {l : List Oper} (hmix : P.follows .mixedOrders = true) (T : Heap → Heap → Prop) (hT : Fit T) (ks : List Kd) (t : PT)
    (hB : regT n l.toArray ks t = true) (hp : HTree P l.toArray ks T (Q .normal) t ρ h) : HX m P n (.region id l.toArray true) Q ρ h := by
  intro N a w s hm hw
  simp only [regT, Bool.and_eq_true] at hB
  obtain ⟨⟨h1, h2⟩, h4⟩ := hB
  have hd : ∀ (i : Nat) (o : Oper), (l.toArray)[i]? = some o → dstB n o = true := fun i o ho => Array.all_eq_true_iff_forall_mem.1 h2 o (Array.mem_of_getElem? ho)
  refine wpIn_mono (wpIn_region_any hmix (wpAny_of_hAny (kd := fun i => (kdOf ks i).ok T) (Q := Q .normal) (w0 := w) hd _ _ ρ h a _ s hm hw ⟨rfl, rfl, rfl, Nat.le_succ _, HG.refl _⟩ ?_)) fun _ _ _ ⟨he, g1, ρ', g2, g3, g4⟩ => ⟨g1, ρ', g2, g3, by rw [he]; exact g4⟩
  refine hAny_of_tree hT h1 t _ _ ρ h (fun j o _ hl => ?_) h4 hp
  have : (Array.replicate l.toArray.size false).getD j false = false := by
    rcases Nat.lt_or_ge j l.toArray.size with h | h <;> simp [Array.getD, h]
  rw [this] at hl; cases hl
section
variable {P : Program} {ops : Array Oper} {ks : List Kd} {T : Heap → Heap → Prop} {Q : Regs → Heap → Prop} {i : Nat} {t : PT} {ρ : Regs} {h : Heap} {o : Oper}
theorem ht_done (hq : Q ρ h) : HTree P ops ks T Q .done ρ h := hq
theorem ho_pure {C : Regs → Heap → Prop} (ho : ops[i]? = some o) (hw : Region.wanted o (yl ops ρ) = true) (hk : kdOf ks i = .pure) (v : Value) (hv : ∀ h', HVal P ρ o h' v) (hn : C (updo ρ o.dst v) h) : HOne P ops ks T C i ρ h := by
  simp only [HOne, ho, hw, if_true, hk]; exact ⟨v, hv, hn⟩
theorem ho_read {C : Regs → Heap → Prop} (ho : ops[i]? = some o) (hw : Region.wanted o (yl ops ρ) = true) (hk : kdOf ks i = .read) (v : Value) (hv : ∀ h', Ext h h' → HVal P ρ o h' v) (hn : C (updo ρ o.dst v) h) : HOne P ops ks T C i ρ h := by
  simp only [HOne, ho, hw, if_true, hk]; exact ⟨v, hv, hn⟩
theorem ho_stay {C : Regs → Heap → Prop} (ho : ops[i]? = some o) (hw : Region.wanted o (yl ops ρ) = true) (hk : kdOf ks i = .stay) (v : Value) (hv : ∀ h', T h h' → HVal P ρ o h' v) (hn : C (updo ρ o.dst v) h) : HOne P ops ks T C i ρ h := by
  simp only [HOne, ho, hw, if_true, hk]; exact ⟨v, hv, hn⟩
theorem ho_tame {C : Regs → Heap → Prop} (ho : ops[i]? = some o) (hw : Region.wanted o (yl ops ρ) = true) (hk : kdOf ks i = .tame) (hs : HStep P ρ o h fun v h' => T h h' ∧ C (updo ρ o.dst v) h') : HOne P ops ks T C i ρ h := by
  simp only [HOne, ho, hw, if_true, hk]; exact hs
theorem ho_ext {C : Regs → Heap → Prop} (ho : ops[i]? = some o) (hw : Region.wanted o (yl ops ρ) = true) (hk : kdOf ks i = .ext) (hs : HStep P ρ o h fun v h' => Ext h h' ∧ C (updo ρ o.dst v) h') : HOne P ops ks T C i ρ h := by
  simp only [HOne, ho, hw, if_true, hk]; exact hs
theorem ho_wild {C : Regs → Heap → Prop} (ho : ops[i]? = some o) (hw : Region.wanted o (yl ops ρ) = true) (hk : kdOf ks i = .wild) (hs : HStep P ρ o h fun v h' => C (updo ρ o.dst v) h') : HOne P ops ks T C i ρ h := by
  simp only [HOne, ho, hw, if_true, hk]; exact hs.mono fun v h' hn => ⟨trivial, hn⟩
theorem ht_one (hp : HOne P ops ks T (HTree P ops ks T Q t) i ρ h) : HTree P ops ks T Q (.one i t) ρ h := hp
theorem ht_fork2 {i j : Nat} {u : PT} {f : Nat → PT} (hi : f i = t) (hj : f j = u) (h1 : HOne P ops ks T (HTree P ops ks T Q t) i ρ h) (h2 : HOne P ops ks T (HTree P ops ks T Q u) j ρ h) : HTree P ops ks T Q (.fork [i, j] f) ρ h := by
  intro k hk
  simp only [List.mem_cons, List.not_mem_nil, or_false] at hk
  rcases hk with rfl | rfl
  · rw [hi]; exact h1
  · rw [hj]; exact h2
end
end Go.Proofs.YthjehlocmikchaaDoor
namespace Go.Proofs.YthjehlocmikchaaDoor
open Go
open Go.Proofs.YthjehlocmikchaaDoor renaming hl_val → lv, hl_step → lp, hl_nil → ln, hl_yes → ly, hl_no → lo, hx_seq → xs, hx_region → xr, hx_cond → xc, hx_block → xb, hx_loopT → xl, hx_cut → xk, hx_has → xh, hx_skip → xi, hx_ret → xt, hx_exit → xe, seqQ_n → qn, seqQ_ret → qr, seqQ_exit → qe, blockQ_n → bn, blockQ_ret → br, blockQ_here → bh, hv_move → vm, hv_assign → va, hv_arith → vr, hv_load → vl, hv_loads → vL, hv_extract → vx, hv_field → vf, hv_build → vb, hv_index → vi, hp_pure → pp, hp_read → pr, has_cons → hc, has_nil → hn, hcells_cons → cc, hcells_nil → cn, rowcell → rc, hs_call → sc
set_option maxRecDepth 100000
set_option maxHeartbeats 4000000
theorem TyTA.agg24 : aggB Tryd.prog 24 = some true := by kernel_rfl
theorem TyTA.agg25 : aggB Tryd.prog 25 = some false := by kernel_rfl
theorem TyTA.agg3 : aggB Tryd.prog 3 = some false := by kernel_rfl
theorem TyTA.agg5 : aggB Tryd.prog 5 = some false := by kernel_rfl
theorem TyTA.cb104 : CallB Tryd.prog 104 := fun _ _ => Tryd.call104 _ _
theorem TyTA.cb106 : CallB Tryd.prog 106 := fun _ _ => Tryd.call106 _ _
theorem TyTA.cb114 : CallB Tryd.prog 114 := fun _ _ => Tryd.call114 _ _
theorem TyTA.cb16 : CallB Tryd.prog 16 := fun _ _ => Tryd.call16 _ _
theorem TyTA.cb31 : CallB Tryd.prog 31 := fun _ _ => Tryd.call31 _ _
theorem TyTA.cb41 : CallB Tryd.prog 41 := fun _ _ => Tryd.call41 _ _
theorem TyTA.cb50 : CallB Tryd.prog 50 := fun _ _ => Tryd.call50 _ _
theorem TyTA.cb59 : CallB Tryd.prog 59 := fun _ _ => Tryd.call59 _ _
theorem TyTA.cb60 : CallB Tryd.prog 60 := fun _ _ => Tryd.call60 _ _
theorem TyTA.cb63 : CallB Tryd.prog 63 := fun _ _ => Tryd.call63 _ _
theorem TyTA.cb72 : CallB Tryd.prog 72 := fun _ _ => Tryd.call72 _ _
theorem TyTA.cb81 : CallB Tryd.prog 81 := fun _ _ => Tryd.call81 _ _
theorem TyTA.cb87 : CallB Tryd.prog 87 := fun _ _ => Tryd.call87 _ _
theorem TyTA.ea152 : elA Tryd.prog 152 = some (64, 1) := by kernel_rfl
theorem TyTA.el25 : elB Tryd.prog 25 = some 1 := by kernel_rfl
theorem TyTA.fld24_0 : fldB Tryd.prog 24 0 = some 0 := by kernel_rfl
theorem TyTA.fld24_1 : fldB Tryd.prog 24 1 = some 1 := by kernel_rfl
theorem TyTA.fld24_2 : fldB Tryd.prog 24 2 = some 2 := by kernel_rfl
theorem TyTA.fld24_3 : fldB Tryd.prog 24 3 = some 3 := by kernel_rfl
theorem TyTA.mixed : Tryd.prog.follows .mixedOrders = true := by kernel_rfl
theorem TyTA.pl24 : plB Tryd.prog 24 = some [(0, 1), (1, 1), (2, 1), (3, 1)] := by kernel_rfl
theorem TyTA.sz24 : szB Tryd.prog 24 = some 4 := by kernel_rfl
theorem TyTA.sz5 : szB Tryd.prog 5 = some 1 := by kernel_rfl
theorem TyTA.u122 : Tryd.prog.underlying 122 = some (.int .u64) := by kernel_rfl
theorem TyTA.u25 : Tryd.prog.underlying 25 = some (.slice 5) := by kernel_rfl
theorem TyTA.u29 : Tryd.prog.underlying 29 = some (.int .u64) := by kernel_rfl
theorem TyTA.u3 : Tryd.prog.underlying 3 = some (.int .i64) := by kernel_rfl
theorem TyTA.u5 : Tryd.prog.underlying 5 = some (.int .u8) := by kernel_rfl
theorem TyTA.u86 : Tryd.prog.underlying 86 = some (.int .u32) := by kernel_rfl
theorem TyTA.z24 : zeroB Tryd.prog 24 (.agg #[(.int .i64 0), (.int .i64 0), (.int .i64 0), (.int .i64 0)]) := by unfold zeroB; kernel_rfl
theorem ext_pushed_f44_sh {h h1 : Heap} {o : Obj} (e : h1 = Array.push h o) : Ext h h1 := by rw [e]; exact Ext.push _ _
theorem f41_sh (n : Int) (lo : Int) (hi : Int) (h : Heap) (R : Value → Heap → Prop)
  (H : (∃ (I1 : Int → Prop) (a0 : Int → Nat), I1 lo ∧ (∀ (p : Int), I1 p → (((decide (p ≤ hi)) = true → (((n == p) = true → R (.bool true) h) ∧ ((n == p) = false → (I1 (IntKind.i64.wrap (p * 2)) ∧ a0 (IntKind.i64.wrap (p * 2)) < a0 p)))) ∧ ((decide (p ≤ hi)) = false → R (.bool false) h))))) :
  HC Tryd.prog 41 #[(.int .i64 n), (.int .i64 lo), (.int .i64 hi)] h R := by
 refine hc_of (args := [(.int .i64 n), (.int .i64 lo), (.int .i64 hi)]) Tryd.func41 rfl Tryd.ntmps41 (Nat.le_of_ble_eq_true rfl) ?_
 refine xs (xr ?_)
 refine lv rfl rfl (va rfl) ?_
 refine ln (qn (xs (xs (xr ?_))))
 refine lv rfl rfl (vm rfl) (lv rfl rfl (va rfl) ?_)
 refine ln (qn (xb ?_))
 obtain ⟨I1, a0, a4, a3⟩ := H
 refine xl (σ := Int) (fun s => [(0, (.int .i64 n)), (2, (.int .i64 hi)), (7, (.int .i64 s))]) (fun s h' => I1 s ∧ h = h') (fun s _ => a0 s) lo ⟨a4, rfl⟩ (hc rfl (hc rfl (hc rfl hn))) ?_
 rintro p ρ _ ⟨a5, rfl⟩
 have H := a3 p a5
 refine xs (xs (xr ?_))
 refine lv rfl rfl (vm rfl) (lv rfl rfl (vm rfl) (lv rfl rfl (vr rfl rfl rfl) ?_))
 refine ln (qn ?_)
 refine xc (b := decide (p ≤ hi)) rfl (fun a2 => ?_) (fun a2 => ?_)
 ·replace H := H.1 a2
  refine xi (qn (xs (xb (xs (xr ?_)))))
  refine lv rfl rfl (vm rfl) (lv rfl rfl (vm rfl) (lv rfl rfl (vr rfl rfl rfl) ?_))
  refine ln (qn ?_)
  refine xc (b := n == p) rfl (fun a1 => ?_) (fun a1 => ?_)
  ·replace H := H.1 a1
   refine xs (xr ?_)
   refine lv rfl rfl (va rfl) ?_
   refine ln (qn (xt (br (qr (qr (br (qr ?_)))))))
   exact endQ_ret _ (res_one Tryd.results41 (rv_tmp rfl)) H
  ·replace H := H.2 a1
   refine xi (bn (qn (xr ?_)))
   refine lv rfl rfl (vm rfl) (lv rfl rfl (vr rfl rfl rfl) (lv rfl rfl (va rfl) ?_))
   refine ln (qn ?_)
   exact ⟨IntKind.i64.wrap (p * 2), ⟨⟨H.1, rfl⟩, H.2⟩, (hc rfl (hc rfl (hc rfl hn)))⟩
 ·replace H := H.2 a2
  refine xe (qe (qe (bh (qn (xs (xr ?_))))))
  refine lv rfl rfl (va rfl) ?_
  refine ln (qn (xt ?_))
  exact endQ_ret _ (res_one Tryd.results41 (rv_tmp rfl)) H
theorem f45_sh (a1 : Int) (a0 : Int) (a2 : Int) (a3 : Int) (h : Heap) (R : Value → Heap → Prop)
  (H : (∀ (h1 : Heap), Ext h h1 → R (.int .i64 (IntKind.i64.wrap (a1 * a0))) h1)) :
  HC Tryd.prog 45 #[(.agg #[(.int .i64 a1), (.int .i64 a0), (.int .i64 a2), (.int .i64 a3)])] h R := by
 refine hc_of (args := [(.agg #[(.int .i64 a1), (.int .i64 a0), (.int .i64 a2), (.int .i64 a3)])]) Tryd.func45 rfl Tryd.ntmps45 (Nat.le_of_ble_eq_true rfl) ?_
 refine xs (xr ?_)
 refine lp rfl rfl (hn_box (v := (.agg #[(.int .i64 a1), (.int .i64 a0), (.int .i64 a2), (.int .i64 a3)])) rfl ?_)
 intro g h1 a5 a6
 have a7 := ext_pushed_f44_sh a6
 have a8 : Array.size h ≤ g := Nat.le_of_eq (Eq.symm a5)
 have a4 : h1[g]? = some (.cells #[(.int .i64 a1), (.int .i64 a0), (.int .i64 a2), (.int .i64 a3)] 24 (0, 0)) := by rw [a6]; exact push_new a5
 refine lv rfl rfl (va rfl) ?_
 refine ln (qn (xs (xr ?_)))
 refine lv rfl rfl (v := (ptr g 0)) (vf TyTA.fld24_0 (b := g) (o := 0) rfl) (lv rfl rfl (vl TyTA.agg3 rfl (rc a4 rfl)) (lv rfl rfl (v := (ptr g 1)) (vf TyTA.fld24_1 (b := g) (o := 0) rfl) (lv rfl rfl (vl TyTA.agg3 rfl (rc a4 rfl)) (lv rfl rfl (vr rfl rfl rfl) (lv rfl rfl (va rfl) ?_)))))
 refine ln (qn (xt ?_))
 replace H := H h1 a7
 exact endQ_ret _ (res_one Tryd.results45 (rv_tmp rfl)) H
theorem f50_sh (a2 : Int) (a1 : Int) (a0 : Int) (a3 : Int) (h : Heap) (R : Value → Heap → Prop)
  (H : (∀ (h1 : Heap), Ext h h1 → R (.int .i64 (IntKind.i64.wrap ((IntKind.i64.wrap (a2 * a1)) * a0))) h1)) :
  HC Tryd.prog 50 #[(.agg #[(.int .i64 a2), (.int .i64 a1), (.int .i64 a0), (.int .i64 a3)])] h R := by
 refine hc_of (args := [(.agg #[(.int .i64 a2), (.int .i64 a1), (.int .i64 a0), (.int .i64 a3)])]) Tryd.func50 rfl Tryd.ntmps50 (Nat.le_of_ble_eq_true rfl) ?_
 refine xs (xr ?_)
 refine lp rfl rfl (hn_box (v := (.agg #[(.int .i64 a2), (.int .i64 a1), (.int .i64 a0), (.int .i64 a3)])) rfl ?_)
 intro g h1 a5 a6
 have a7 := ext_pushed_f44_sh a6
 have a8 : Array.size h ≤ g := Nat.le_of_eq (Eq.symm a5)
 have a4 : h1[g]? = some (.cells #[(.int .i64 a2), (.int .i64 a1), (.int .i64 a0), (.int .i64 a3)] 24 (0, 0)) := by rw [a6]; exact push_new a5
 refine lv rfl rfl (va rfl) ?_
 refine ln (qn (xs (xr ?_)))
 refine lv rfl rfl (v := (ptr g 0)) (vf TyTA.fld24_0 (b := g) (o := 0) rfl) (lv rfl rfl (vl TyTA.agg3 rfl (rc a4 rfl)) (lv rfl rfl (v := (ptr g 1)) (vf TyTA.fld24_1 (b := g) (o := 0) rfl) (lv rfl rfl (vl TyTA.agg3 rfl (rc a4 rfl)) (lv rfl rfl (vr rfl rfl rfl) (lv rfl rfl (v := (ptr g 2)) (vf TyTA.fld24_2 (b := g) (o := 0) rfl) ?_)))))
 refine lv rfl rfl (vl TyTA.agg3 rfl (rc a4 rfl)) (lv rfl rfl (vr rfl rfl rfl) (lv rfl rfl (va rfl) ?_))
 refine ln (qn (xt ?_))
 replace H := H h1 a7
 exact endQ_ret _ (res_one Tryd.results50 (rv_tmp rfl)) H
theorem f16_sh (a1 : Int) (a0 : Int) (a2 : Int) (a3 : Int) (h : Heap) (R : Value → Heap → Prop)
  (H : (∃ j : Bool, (∀ (g : Nat) (h1 : Heap), Array.size h ≤ g → g < Array.size h1 → Ext h h1 → (∃ r : Bool, HC Tryd.prog 41 #[(.int .i64 a1), (.int .i64 16), (.int .i64 4096)] h1 (fun vv h' => vv = (.bool r) ∧ h' = h1) ∧ (((!r) = true → (j = true)) ∧ ((!r) = false → (((decide (a0 < 1)) = true → (j = true)) ∧ ((decide (a0 < 1)) = false → (((decide (a0 > 64)) = true → (j = true)) ∧ ((decide (a0 > 64)) = false → (((decide (a2 < 2)) = true → (j = true)) ∧ ((decide (a2 < 2)) = false → (((decide (a2 > 256)) = true → (j = true)) ∧ ((decide (a2 > 256)) = false → (∃ b2 : Bool, HC Tryd.prog 41 #[(.int .i64 a3), (.int .i64 1), (.int .i64 a1)] h1 (fun vv h' => vv = (.bool b2) ∧ h' = h1) ∧ (j = (!b2))))))))))))))) ∧ ((j = true → (∀ (h1 : Heap), Ext h h1 → R (.int .i64 20) h1)) ∧ (j = false → ((((decide ((IntKind.i64.wrap (a1 * a0)) < 128)) || ((decide ((IntKind.i64.wrap ((IntKind.i64.wrap (a1 * a0)) - 48)) < a3)) || (decide ((IntKind.i64.wrap ((IntKind.i64.wrap (a1 * a0)) * a2)) > 1048576)))) = true → (∀ (h1 : Heap), Ext h h1 → R (.int .i64 20) h1)) ∧ (((decide ((IntKind.i64.wrap (a1 * a0)) < 128)) || ((decide ((IntKind.i64.wrap ((IntKind.i64.wrap (a1 * a0)) - 48)) < a3)) || (decide ((IntKind.i64.wrap ((IntKind.i64.wrap (a1 * a0)) * a2)) > 1048576)))) = false → (∀ (h1 : Heap), Ext h h1 → R (.int .i64 0) h1))))))) :
  HC Tryd.prog 16 #[(.agg #[(.int .i64 a1), (.int .i64 a0), (.int .i64 a2), (.int .i64 a3)])] h R := by
 refine hc_of (args := [(.agg #[(.int .i64 a1), (.int .i64 a0), (.int .i64 a2), (.int .i64 a3)])]) Tryd.func16 rfl Tryd.ntmps16 (Nat.le_of_ble_eq_true rfl) ?_
 refine xs (xr ?_)
 refine lp rfl rfl (hn_box (v := (.agg #[(.int .i64 a1), (.int .i64 a0), (.int .i64 a2), (.int .i64 a3)])) rfl ?_)
 intro g h1 b8 b9
 have b5 := ext_pushed_f44_sh b9
 have c1 : Array.size h ≤ g := Nat.le_of_eq (Eq.symm b8)
 have a7 : h1[g]? = some (.cells #[(.int .i64 a1), (.int .i64 a0), (.int .i64 a2), (.int .i64 a3)] 24 (0, 0)) := by rw [b9]; exact push_new b8
 refine lv rfl rfl (va rfl) ?_
 refine ln (qn (xs ?_))
 obtain ⟨j, b7, b6⟩ := H
 refine xk (fun ρ h' => h1 = h' ∧ Has ρ [(1, (ptr g 0)), (34, (.bool j))]) ?_ ?_
 ·have H := b7; clear b7 b6
  refine xr ?_
  refine lv rfl rfl (v := (ptr g 0)) (vf TyTA.fld24_0 (b := g) (o := 0) rfl) (lv rfl rfl (vl TyTA.agg3 rfl (rc a7 rfl)) ?_)
  replace H := H g h1 c1 (row_lt a7) b5
  obtain ⟨r, c2, H⟩ := H
  refine lv rfl rfl (hv_call TyTA.cb41 (vs := [(.int .i64 a1), (.int .i64 16), (.int .i64 4096)]) rfl c2) (lv rfl rfl (v := (.bool (!r))) (hv_not (b := r) rfl) (lv rfl rfl (vm rfl) ?_))
  rcases bool_or (!r) with b1 | b1
  ·replace H := H.1 b1
   refine lo (wanted_n rfl rfl rfl b1) rfl ?_
   refine lo (wanted_n rfl rfl rfl b1) rfl ?_
   refine lo (wanted_n rfl rfl rfl b1) rfl ?_
   refine lv rfl rfl (v := (.bool true)) (hv_pick_t rfl b1 rfl) (lv rfl rfl (vm rfl) ?_)
   refine lo (wanted_n rfl rfl (c := true) rfl rfl) rfl ?_
   refine lo (wanted_n rfl rfl (c := true) rfl rfl) rfl ?_
   refine lo (wanted_n rfl rfl (c := true) rfl rfl) rfl ?_
   refine lv rfl rfl (v := (.bool true)) (hv_pick (t := true) rfl rfl) (lv rfl rfl (vm rfl) ?_)
   refine lo (wanted_n rfl rfl (c := true) rfl rfl) rfl ?_
   refine lo (wanted_n rfl rfl (c := true) rfl rfl) rfl ?_
   refine lo (wanted_n rfl rfl (c := true) rfl rfl) rfl ?_
   refine lv rfl rfl (v := (.bool true)) (hv_pick (t := true) rfl rfl) (lv rfl rfl (vm rfl) ?_)
   refine lo (wanted_n rfl rfl (c := true) rfl rfl) rfl ?_
   refine lo (wanted_n rfl rfl (c := true) rfl rfl) rfl ?_
   refine lo (wanted_n rfl rfl (c := true) rfl rfl) rfl ?_
   refine lv rfl rfl (v := (.bool true)) (hv_pick (t := true) rfl rfl) (lv rfl rfl (vm rfl) ?_)
   refine lo (wanted_n rfl rfl (c := true) rfl rfl) rfl ?_
   refine lo (wanted_n rfl rfl (c := true) rfl rfl) rfl ?_
   refine lo (wanted_n rfl rfl (c := true) rfl rfl) rfl ?_
   refine lo (wanted_n rfl rfl (c := true) rfl rfl) rfl ?_
   refine lo (wanted_n rfl rfl (c := true) rfl rfl) rfl ?_
   refine lo (wanted_n rfl rfl (c := true) rfl rfl) rfl ?_
   refine lv rfl rfl (v := (.bool true)) (hv_pick (t := true) rfl rfl) ?_
   refine ln (qn ?_)
   obtain rfl := H
   exact ⟨rfl, (hc rfl (hc rfl hn))⟩
  ·replace H := H.2 b1
   refine ly (wanted_y rfl rfl rfl b1) rfl (HStep.of_val (v := (ptr g 1)) (vf TyTA.fld24_1 (b := g) (o := 0) rfl) ?_)
   refine ly (wanted_y rfl rfl rfl b1) rfl (HStep.of_val (v := (.int .i64 a0)) (vl TyTA.agg3 rfl (rc a7 rfl)) ?_)
   refine ly (wanted_y rfl rfl rfl b1) rfl (HStep.of_val (v := (.bool (decide (a0 < 1)))) (vr rfl rfl rfl) ?_)
   refine lv rfl rfl (v := (.bool (decide (a0 < 1)))) (hv_pick_f rfl b1 rfl) (lv rfl rfl (vm rfl) ?_)
   rcases bool_or (decide (a0 < 1)) with a8 | a8
   ·replace H := H.1 a8
    refine lo (wanted_n rfl rfl rfl a8) rfl ?_
    refine lo (wanted_n rfl rfl rfl a8) rfl ?_
    refine lo (wanted_n rfl rfl rfl a8) rfl ?_
    refine lv rfl rfl (v := (.bool true)) (hv_pick_t rfl a8 rfl) (lv rfl rfl (vm rfl) ?_)
    refine lo (wanted_n rfl rfl (c := true) rfl rfl) rfl ?_
    refine lo (wanted_n rfl rfl (c := true) rfl rfl) rfl ?_
    refine lo (wanted_n rfl rfl (c := true) rfl rfl) rfl ?_
    refine lv rfl rfl (v := (.bool true)) (hv_pick (t := true) rfl rfl) (lv rfl rfl (vm rfl) ?_)
    refine lo (wanted_n rfl rfl (c := true) rfl rfl) rfl ?_
    refine lo (wanted_n rfl rfl (c := true) rfl rfl) rfl ?_
    refine lo (wanted_n rfl rfl (c := true) rfl rfl) rfl ?_
    refine lv rfl rfl (v := (.bool true)) (hv_pick (t := true) rfl rfl) (lv rfl rfl (vm rfl) ?_)
    refine lo (wanted_n rfl rfl (c := true) rfl rfl) rfl ?_
    refine lo (wanted_n rfl rfl (c := true) rfl rfl) rfl ?_
    refine lo (wanted_n rfl rfl (c := true) rfl rfl) rfl ?_
    refine lo (wanted_n rfl rfl (c := true) rfl rfl) rfl ?_
    refine lo (wanted_n rfl rfl (c := true) rfl rfl) rfl ?_
    refine lo (wanted_n rfl rfl (c := true) rfl rfl) rfl ?_
    refine lv rfl rfl (v := (.bool true)) (hv_pick (t := true) rfl rfl) ?_
    refine ln (qn ?_)
    obtain rfl := H
    exact ⟨rfl, (hc rfl (hc rfl hn))⟩
   ·replace H := H.2 a8
    refine ly (wanted_y rfl rfl rfl a8) rfl (HStep.of_val (v := (ptr g 1)) (vf TyTA.fld24_1 (b := g) (o := 0) rfl) ?_)
    refine ly (wanted_y rfl rfl rfl a8) rfl (HStep.of_val (v := (.int .i64 a0)) (vl TyTA.agg3 rfl (rc a7 rfl)) ?_)
    refine ly (wanted_y rfl rfl rfl a8) rfl (HStep.of_val (v := (.bool (decide (a0 > 64)))) (vr rfl rfl rfl) ?_)
    refine lv rfl rfl (v := (.bool (decide (a0 > 64)))) (hv_pick_f rfl a8 rfl) (lv rfl rfl (vm rfl) ?_)
    rcases bool_or (decide (a0 > 64)) with a9 | a9
    ·replace H := H.1 a9
     refine lo (wanted_n rfl rfl rfl a9) rfl ?_
     refine lo (wanted_n rfl rfl rfl a9) rfl ?_
     refine lo (wanted_n rfl rfl rfl a9) rfl ?_
     refine lv rfl rfl (v := (.bool true)) (hv_pick_t rfl a9 rfl) (lv rfl rfl (vm rfl) ?_)
     refine lo (wanted_n rfl rfl (c := true) rfl rfl) rfl ?_
     refine lo (wanted_n rfl rfl (c := true) rfl rfl) rfl ?_
     refine lo (wanted_n rfl rfl (c := true) rfl rfl) rfl ?_
     refine lv rfl rfl (v := (.bool true)) (hv_pick (t := true) rfl rfl) (lv rfl rfl (vm rfl) ?_)
     refine lo (wanted_n rfl rfl (c := true) rfl rfl) rfl ?_
     refine lo (wanted_n rfl rfl (c := true) rfl rfl) rfl ?_
     refine lo (wanted_n rfl rfl (c := true) rfl rfl) rfl ?_
     refine lo (wanted_n rfl rfl (c := true) rfl rfl) rfl ?_
     refine lo (wanted_n rfl rfl (c := true) rfl rfl) rfl ?_
     refine lo (wanted_n rfl rfl (c := true) rfl rfl) rfl ?_
     refine lv rfl rfl (v := (.bool true)) (hv_pick (t := true) rfl rfl) ?_
     refine ln (qn ?_)
     obtain rfl := H
     exact ⟨rfl, (hc rfl (hc rfl hn))⟩
    ·replace H := H.2 a9
     refine ly (wanted_y rfl rfl rfl a9) rfl (HStep.of_val (v := (ptr g 2)) (vf TyTA.fld24_2 (b := g) (o := 0) rfl) ?_)
     refine ly (wanted_y rfl rfl rfl a9) rfl (HStep.of_val (v := (.int .i64 a2)) (vl TyTA.agg3 rfl (rc a7 rfl)) ?_)
     refine ly (wanted_y rfl rfl rfl a9) rfl (HStep.of_val (v := (.bool (decide (a2 < 2)))) (vr rfl rfl rfl) ?_)
     refine lv rfl rfl (v := (.bool (decide (a2 < 2)))) (hv_pick_f rfl a9 rfl) (lv rfl rfl (vm rfl) ?_)
     rcases bool_or (decide (a2 < 2)) with b0 | b0
     ·replace H := H.1 b0
      refine lo (wanted_n rfl rfl rfl b0) rfl ?_
      refine lo (wanted_n rfl rfl rfl b0) rfl ?_
      refine lo (wanted_n rfl rfl rfl b0) rfl ?_
      refine lv rfl rfl (v := (.bool true)) (hv_pick_t rfl b0 rfl) (lv rfl rfl (vm rfl) ?_)
      refine lo (wanted_n rfl rfl (c := true) rfl rfl) rfl ?_
      refine lo (wanted_n rfl rfl (c := true) rfl rfl) rfl ?_
      refine lo (wanted_n rfl rfl (c := true) rfl rfl) rfl ?_
      refine lo (wanted_n rfl rfl (c := true) rfl rfl) rfl ?_
      refine lo (wanted_n rfl rfl (c := true) rfl rfl) rfl ?_
      refine lo (wanted_n rfl rfl (c := true) rfl rfl) rfl ?_
      refine lv rfl rfl (v := (.bool true)) (hv_pick (t := true) rfl rfl) ?_
      refine ln (qn ?_)
      obtain rfl := H
      exact ⟨rfl, (hc rfl (hc rfl hn))⟩
     ·replace H := H.2 b0
      refine ly (wanted_y rfl rfl rfl b0) rfl (HStep.of_val (v := (ptr g 2)) (vf TyTA.fld24_2 (b := g) (o := 0) rfl) ?_)
      refine ly (wanted_y rfl rfl rfl b0) rfl (HStep.of_val (v := (.int .i64 a2)) (vl TyTA.agg3 rfl (rc a7 rfl)) ?_)
      refine ly (wanted_y rfl rfl rfl b0) rfl (HStep.of_val (v := (.bool (decide (a2 > 256)))) (vr rfl rfl rfl) ?_)
      refine lv rfl rfl (v := (.bool (decide (a2 > 256)))) (hv_pick_f rfl b0 rfl) (lv rfl rfl (vm rfl) ?_)
      rcases bool_or (decide (a2 > 256)) with a6 | a6
      ·replace H := H.1 a6
       refine lo (wanted_n rfl rfl rfl a6) rfl ?_
       refine lo (wanted_n rfl rfl rfl a6) rfl ?_
       refine lo (wanted_n rfl rfl rfl a6) rfl ?_
       refine lo (wanted_n rfl rfl rfl a6) rfl ?_
       refine lo (wanted_n rfl rfl rfl a6) rfl ?_
       refine lo (wanted_n rfl rfl rfl a6) rfl ?_
       refine lv rfl rfl (v := (.bool true)) (hv_pick_t rfl a6 rfl) ?_
       refine ln (qn ?_)
       obtain rfl := H
       exact ⟨rfl, (hc rfl (hc rfl hn))⟩
      ·replace H := H.2 a6
       refine ly (wanted_y rfl rfl rfl a6) rfl (HStep.of_val (v := (ptr g 3)) (vf TyTA.fld24_3 (b := g) (o := 0) rfl) ?_)
       refine ly (wanted_y rfl rfl rfl a6) rfl (HStep.of_val (v := (.int .i64 a3)) (vl TyTA.agg3 rfl (rc a7 rfl)) ?_)
       refine ly (wanted_y rfl rfl rfl a6) rfl (HStep.of_val (v := (ptr g 0)) (vf TyTA.fld24_0 (b := g) (o := 0) rfl) ?_)
       refine ly (wanted_y rfl rfl rfl a6) rfl (HStep.of_val (v := (.int .i64 a1)) (vl TyTA.agg3 rfl (rc a7 rfl)) ?_)
       obtain ⟨b2, c0, H⟩ := H
       refine ly (wanted_y rfl rfl rfl a6) rfl (HStep.of_val (v := (.bool b2)) (hv_call TyTA.cb41 (vs := [(.int .i64 a3), (.int .i64 1), (.int .i64 a1)]) rfl c0) ?_)
       refine ly (wanted_y rfl rfl rfl a6) rfl (HStep.of_val (v := (.bool (!b2))) (hv_not (b := b2) rfl) ?_)
       refine lv rfl rfl (v := (.bool (!b2))) (hv_pick_f rfl a6 rfl) ?_
       refine ln (qn ?_)
       obtain rfl := H
       exact ⟨rfl, (hc rfl (hc rfl hn))⟩
 ·have H := b6; clear b7 b6
  rintro ρ _ ⟨rfl, hH⟩
  refine xh _ hH ?_
  refine xc (b := j) rfl (fun b3 => ?_) (fun b3 => ?_)
  ·replace H := H.1 b3
   refine xs (xr ?_)
   refine lv rfl rfl (va rfl) ?_
   refine ln (qn (xt (qr ?_)))
   replace H := H h1 b5
   exact endQ_ret _ (res_one Tryd.results16 (rv_tmp rfl)) H
  ·replace H := H.2 b3
   refine xi (qn (xs ?_))
   refine xk (fun ρ h' => h1 = h' ∧ Has ρ [(62, (.bool ((decide ((IntKind.i64.wrap (a1 * a0)) < 128)) || ((decide ((IntKind.i64.wrap ((IntKind.i64.wrap (a1 * a0)) - 48)) < a3)) || (decide ((IntKind.i64.wrap ((IntKind.i64.wrap (a1 * a0)) * a2)) > 1048576))))))]) ?_ ?_
   ·refine xr ?_
    refine lv rfl rfl (v := (ptr g 0)) (vf TyTA.fld24_0 (b := g) (o := 0) rfl) (lv rfl rfl (vl TyTA.agg3 rfl (rc a7 rfl)) (lv rfl rfl (v := (ptr g 1)) (vf TyTA.fld24_1 (b := g) (o := 0) rfl) (lv rfl rfl (vl TyTA.agg3 rfl (rc a7 rfl)) (lv rfl rfl (vr rfl rfl rfl) (lv rfl rfl (vr rfl rfl rfl) ?_)))))
    refine lv rfl rfl (vm rfl) ?_
    rcases bool_or (decide ((IntKind.i64.wrap (a1 * a0)) < 128)) with a4 | a4
    ·refine lo (wanted_n rfl rfl rfl a4) rfl ?_
     refine lo (wanted_n rfl rfl rfl a4) rfl ?_
     refine lo (wanted_n rfl rfl rfl a4) rfl ?_
     refine lo (wanted_n rfl rfl rfl a4) rfl ?_
     refine lo (wanted_n rfl rfl rfl a4) rfl ?_
     refine lo (wanted_n rfl rfl rfl a4) rfl ?_
     refine lo (wanted_n rfl rfl rfl a4) rfl ?_
     refine lo (wanted_n rfl rfl rfl a4) rfl ?_
     refine lo (wanted_n rfl rfl rfl a4) rfl ?_
     refine lv rfl rfl (v := (.bool true)) (hv_pick_t rfl a4 rfl) (lv rfl rfl (vm rfl) ?_)
     refine lo (wanted_n rfl rfl (c := true) rfl rfl) rfl ?_
     refine lo (wanted_n rfl rfl (c := true) rfl rfl) rfl ?_
     refine lo (wanted_n rfl rfl (c := true) rfl rfl) rfl ?_
     refine lo (wanted_n rfl rfl (c := true) rfl rfl) rfl ?_
     refine lo (wanted_n rfl rfl (c := true) rfl rfl) rfl ?_
     refine lo (wanted_n rfl rfl (c := true) rfl rfl) rfl ?_
     refine lo (wanted_n rfl rfl (c := true) rfl rfl) rfl ?_
     refine lo (wanted_n rfl rfl (c := true) rfl rfl) rfl ?_
     refine lo (wanted_n rfl rfl (c := true) rfl rfl) rfl ?_
     refine lv rfl rfl (v := (.bool true)) (hv_pick (t := true) rfl rfl) ?_
     refine ln (qn ?_)
     exact ⟨rfl, (hc (show ((.bool true) : Value) = (.bool ((decide ((IntKind.i64.wrap (a1 * a0)) < 128)) || ((decide ((IntKind.i64.wrap ((IntKind.i64.wrap (a1 * a0)) - 48)) < a3)) || (decide ((IntKind.i64.wrap ((IntKind.i64.wrap (a1 * a0)) * a2)) > 1048576))))) from (by first | rfl | ((try rw [a4]); all_goals first | rfl | (simp only [Bool.true_or, Bool.or_true, Bool.false_or, Bool.or_false, Bool.true_and, Bool.and_true, Bool.false_and, Bool.and_false, Bool.not_true, Bool.not_false, Bool.cond_true, Bool.cond_false]; done)) | simp [a4])) hn)⟩
    ·refine ly (wanted_y rfl rfl rfl a4) rfl (HStep.of_val (v := (ptr g 0)) (vf TyTA.fld24_0 (b := g) (o := 0) rfl) ?_)
     refine ly (wanted_y rfl rfl rfl a4) rfl (HStep.of_val (v := (.int .i64 a1)) (vl TyTA.agg3 rfl (rc a7 rfl)) ?_)
     refine ly (wanted_y rfl rfl rfl a4) rfl (HStep.of_val (v := (ptr g 1)) (vf TyTA.fld24_1 (b := g) (o := 0) rfl) ?_)
     refine ly (wanted_y rfl rfl rfl a4) rfl (HStep.of_val (v := (.int .i64 a0)) (vl TyTA.agg3 rfl (rc a7 rfl)) ?_)
     refine ly (wanted_y rfl rfl rfl a4) rfl (HStep.of_val (v := (.int .i64 (IntKind.i64.wrap (a1 * a0)))) (vr rfl rfl rfl) ?_)
     refine ly (wanted_y rfl rfl rfl a4) rfl (HStep.of_val (v := (.int .i64 (IntKind.i64.wrap ((IntKind.i64.wrap (a1 * a0)) - 48)))) (vr rfl rfl rfl) ?_)
     refine ly (wanted_y rfl rfl rfl a4) rfl (HStep.of_val (v := (ptr g 3)) (vf TyTA.fld24_3 (b := g) (o := 0) rfl) ?_)
     refine ly (wanted_y rfl rfl rfl a4) rfl (HStep.of_val (v := (.int .i64 a3)) (vl TyTA.agg3 rfl (rc a7 rfl)) ?_)
     refine ly (wanted_y rfl rfl rfl a4) rfl (HStep.of_val (v := (.bool (decide ((IntKind.i64.wrap ((IntKind.i64.wrap (a1 * a0)) - 48)) < a3)))) (vr rfl rfl rfl) ?_)
     refine lv rfl rfl (v := (.bool (decide ((IntKind.i64.wrap ((IntKind.i64.wrap (a1 * a0)) - 48)) < a3)))) (hv_pick_f rfl a4 rfl) (lv rfl rfl (vm rfl) ?_)
     rcases bool_or (decide ((IntKind.i64.wrap ((IntKind.i64.wrap (a1 * a0)) - 48)) < a3)) with a5 | a5
     ·refine lo (wanted_n rfl rfl rfl a5) rfl ?_
      refine lo (wanted_n rfl rfl rfl a5) rfl ?_
      refine lo (wanted_n rfl rfl rfl a5) rfl ?_
      refine lo (wanted_n rfl rfl rfl a5) rfl ?_
      refine lo (wanted_n rfl rfl rfl a5) rfl ?_
      refine lo (wanted_n rfl rfl rfl a5) rfl ?_
      refine lo (wanted_n rfl rfl rfl a5) rfl ?_
      refine lo (wanted_n rfl rfl rfl a5) rfl ?_
      refine lo (wanted_n rfl rfl rfl a5) rfl ?_
      refine lv rfl rfl (v := (.bool true)) (hv_pick_t rfl a5 rfl) ?_
      refine ln (qn ?_)
      exact ⟨rfl, (hc (show ((.bool true) : Value) = (.bool ((decide ((IntKind.i64.wrap (a1 * a0)) < 128)) || ((decide ((IntKind.i64.wrap ((IntKind.i64.wrap (a1 * a0)) - 48)) < a3)) || (decide ((IntKind.i64.wrap ((IntKind.i64.wrap (a1 * a0)) * a2)) > 1048576))))) from (by first | rfl | ((try rw [a4]); (try rw [a5]); all_goals first | rfl | (simp only [Bool.true_or, Bool.or_true, Bool.false_or, Bool.or_false, Bool.true_and, Bool.and_true, Bool.false_and, Bool.and_false, Bool.not_true, Bool.not_false, Bool.cond_true, Bool.cond_false]; done)) | simp [a4, a5])) hn)⟩
     ·refine ly (wanted_y rfl rfl rfl a5) rfl (HStep.of_val (v := (ptr g 0)) (vf TyTA.fld24_0 (b := g) (o := 0) rfl) ?_)
      refine ly (wanted_y rfl rfl rfl a5) rfl (HStep.of_val (v := (.int .i64 a1)) (vl TyTA.agg3 rfl (rc a7 rfl)) ?_)
      refine ly (wanted_y rfl rfl rfl a5) rfl (HStep.of_val (v := (ptr g 1)) (vf TyTA.fld24_1 (b := g) (o := 0) rfl) ?_)
      refine ly (wanted_y rfl rfl rfl a5) rfl (HStep.of_val (v := (.int .i64 a0)) (vl TyTA.agg3 rfl (rc a7 rfl)) ?_)
      refine ly (wanted_y rfl rfl rfl a5) rfl (HStep.of_val (v := (.int .i64 (IntKind.i64.wrap (a1 * a0)))) (vr rfl rfl rfl) ?_)
      refine ly (wanted_y rfl rfl rfl a5) rfl (HStep.of_val (v := (ptr g 2)) (vf TyTA.fld24_2 (b := g) (o := 0) rfl) ?_)
      refine ly (wanted_y rfl rfl rfl a5) rfl (HStep.of_val (v := (.int .i64 a2)) (vl TyTA.agg3 rfl (rc a7 rfl)) ?_)
      refine ly (wanted_y rfl rfl rfl a5) rfl (HStep.of_val (v := (.int .i64 (IntKind.i64.wrap ((IntKind.i64.wrap (a1 * a0)) * a2)))) (vr rfl rfl rfl) ?_)
      refine ly (wanted_y rfl rfl rfl a5) rfl (HStep.of_val (v := (.bool (decide ((IntKind.i64.wrap ((IntKind.i64.wrap (a1 * a0)) * a2)) > 1048576)))) (vr rfl rfl rfl) ?_)
      refine lv rfl rfl (v := (.bool (decide ((IntKind.i64.wrap ((IntKind.i64.wrap (a1 * a0)) * a2)) > 1048576)))) (hv_pick_f rfl a5 rfl) ?_
      refine ln (qn ?_)
      exact ⟨rfl, (hc (show ((.bool (decide ((IntKind.i64.wrap ((IntKind.i64.wrap (a1 * a0)) * a2)) > 1048576))) : Value) = (.bool ((decide ((IntKind.i64.wrap (a1 * a0)) < 128)) || ((decide ((IntKind.i64.wrap ((IntKind.i64.wrap (a1 * a0)) - 48)) < a3)) || (decide ((IntKind.i64.wrap ((IntKind.i64.wrap (a1 * a0)) * a2)) > 1048576))))) from (by first | rfl | ((try rw [a4]); (try rw [a5]); all_goals first | rfl | (simp only [Bool.true_or, Bool.or_true, Bool.false_or, Bool.or_false, Bool.true_and, Bool.and_true, Bool.false_and, Bool.and_false, Bool.not_true, Bool.not_false, Bool.cond_true, Bool.cond_false]; done)) | simp [a4, a5])) hn)⟩
   ·rintro ρ _ ⟨rfl, hH⟩
    refine xh _ hH ?_
    refine xc (b := ((decide ((IntKind.i64.wrap (a1 * a0)) < 128)) || ((decide ((IntKind.i64.wrap ((IntKind.i64.wrap (a1 * a0)) - 48)) < a3)) || (decide ((IntKind.i64.wrap ((IntKind.i64.wrap (a1 * a0)) * a2)) > 1048576))))) rfl (fun b4 => ?_) (fun b4 => ?_)
    ·replace H := H.1 b4
     refine xs (xr ?_)
     refine lv rfl rfl (va rfl) ?_
     refine ln (qn (xt (qr ?_)))
     replace H := H h1 b5
     exact endQ_ret _ (res_one Tryd.results16 (rv_tmp rfl)) H
    ·replace H := H.2 b4
     refine xi (qn (xs (xr ?_)))
     refine lv rfl rfl (va rfl) ?_
     refine ln (qn (xt ?_))
     replace H := H h1 b5
     exact endQ_ret _ (res_one Tryd.results16 (rv_tmp rfl)) H
theorem f38_sh (a3 : Int) (a2 : Int) (a1 : Int) (a0 : Int) (n : Int) (h : Heap) (R : Value → Heap → Prop)
  (H : (∀ (g : Nat) (h1 : Heap), Array.size h ≤ g → g < Array.size h1 → Ext h h1 → HC Tryd.prog 16 #[(.agg #[(.int .i64 a3), (.int .i64 a2), (.int .i64 a1), (.int .i64 a0)])] h1 (fun vv h2 => Ext h1 h2 ∧ ∃ r : Int, vv = (.int .i64 r) ∧ (((r != 0) = true → R (.tuple #[(.int .i64 0), (.int .i64 20)]) h2) ∧ ((r != 0) = false → (∃ b0 : Bool → Heap → Prop, (((decide (n < 0)) = true → (b0 true h2)) ∧ ((decide (n < 0)) = false → HC Tryd.prog 50 #[(.agg #[(.int .i64 a3), (.int .i64 a2), (.int .i64 a1), (.int .i64 a0)])] h2 (fun vv h4 => Ext h2 h4 ∧ ∃ a8 : Int, vv = (.int .i64 a8) ∧ (b0 (decide (n > a8)) h4)))) ∧ (∀ (j : Bool) (h3 : Heap), b0 j h3 → ((j = true → R (.tuple #[(.int .i64 0), (.int .i64 23)]) h3) ∧ (j = false → (∃ (a9 : Int → Prop) (a7 : Int → Nat), a9 n ∧ (∀ (a4 : Int), a9 a4 → (a0 ≠ 0 ∧ ((((Int.tmod a4 a0) != 0) = true → (a9 (IntKind.i64.wrap (a4 + 1)) ∧ a7 (IntKind.i64.wrap (a4 + 1)) < a7 a4)) ∧ (((Int.tmod a4 a0) != 0) = false → R (.tuple #[(.int .i64 a4), (.int .i64 0)]) h3)))))))))))))) :
  HC Tryd.prog 38 #[(.agg #[(.int .i64 a3), (.int .i64 a2), (.int .i64 a1), (.int .i64 a0)]), (.int .i64 n)] h R := by
 refine hc_of (args := [(.agg #[(.int .i64 a3), (.int .i64 a2), (.int .i64 a1), (.int .i64 a0)]), (.int .i64 n)]) Tryd.func38 rfl Tryd.ntmps38 (Nat.le_of_ble_eq_true rfl) ?_
 refine xs (xr ?_)
 refine lp rfl rfl (hn_box (v := (.agg #[(.int .i64 a3), (.int .i64 a2), (.int .i64 a1), (.int .i64 a0)])) rfl ?_)
 intro g h1 b6 b7
 have c6 := ext_pushed_f44_sh b7
 have c5 : Array.size h ≤ g := Nat.le_of_eq (Eq.symm b6)
 have a6 : h1[g]? = some (.cells #[(.int .i64 a3), (.int .i64 a2), (.int .i64 a1), (.int .i64 a0)] 24 (0, 0)) := by rw [b7]; exact push_new b6
 refine lv rfl rfl (va rfl) (lv rfl rfl (va rfl) ?_)
 refine ln (qn (xs (xs (xr ?_))))
 refine lv rfl rfl (vL (vs := [(.int .i64 a3), (.int .i64 a2), (.int .i64 a1), (.int .i64 a0)]) TyTA.agg24 TyTA.sz24 rfl (cc (rc a6 rfl) (cc (rc a6 rfl) (cc (rc a6 rfl) (cc (rc a6 rfl) cn))))) ?_
 replace H := H g h1 c5 (row_lt a6) c6
 refine lp rfl rfl (sc TyTA.cb16 rfl (HC.mono H ?_))
 rintro _ h2 ⟨c7, r, rfl, H⟩
 replace a6 := Ext.row c7 a6
 refine lv rfl rfl (vr rfl rfl rfl) ?_
 refine ln (qn ?_)
 refine xc (b := r != 0) rfl (fun b4 => ?_) (fun b4 => ?_)
 ·replace H := H.1 b4
  refine xs (xr ?_)
  refine lv rfl rfl (va rfl) (lv rfl rfl (va rfl) ?_)
  refine ln (qn (xt (qr ?_)))
  exact endQ_ret _ (res_two Tryd.results38 (rv_tmp rfl) (rv_tmp rfl)) H
 ·replace H := H.2 b4
  refine xi (qn (xs ?_))
  obtain ⟨b0, b3, b5⟩ := H
  refine xk (fun ρ h' => ∃ j : Bool, (b0 j h' ∧ h'[g]? = some (.cells #[(.int .i64 a3), (.int .i64 a2), (.int .i64 a1), (.int .i64 a0)] 24 (0, 0)) ∧ True) ∧ Has ρ [(1, (.int .i64 n)), (2, (ptr g 0)), (16, (.bool j))]) ?_ ?_
  ·have H := b3; clear b3 b5
   refine xr ?_
   refine lv rfl rfl (vm rfl) (lv rfl rfl (vr rfl rfl rfl) (lv rfl rfl (vm rfl) ?_))
   rcases bool_or (decide (n < 0)) with a5 | a5
   ·replace H := H.1 a5
    refine lo (wanted_n rfl rfl rfl a5) rfl ?_
    refine lo (wanted_n rfl rfl rfl a5) rfl ?_
    refine lo (wanted_n rfl rfl rfl a5) rfl ?_
    refine lo (wanted_n rfl rfl rfl a5) rfl ?_
    refine lv rfl rfl (v := (.bool true)) (hv_pick_t rfl a5 rfl) ?_
    refine ln (qn ?_)
    exact ⟨_, ⟨H, a6, trivial⟩, (hc rfl (hc rfl (hc rfl hn)))⟩
   ·replace H := H.2 a5
    refine ly (wanted_y rfl rfl rfl a5) rfl (HStep.of_val (v := (.int .i64 n)) (vm rfl) ?_)
    refine ly (wanted_y rfl rfl rfl a5) rfl (HStep.of_val (v := (.agg #[(.int .i64 a3), (.int .i64 a2), (.int .i64 a1), (.int .i64 a0)])) (vL (vs := [(.int .i64 a3), (.int .i64 a2), (.int .i64 a1), (.int .i64 a0)]) TyTA.agg24 TyTA.sz24 rfl (cc (rc a6 rfl) (cc (rc a6 rfl) (cc (rc a6 rfl) (cc (rc a6 rfl) cn))))) ?_)
    refine ly (wanted_y rfl rfl rfl a5) rfl (sc TyTA.cb50 rfl (HC.mono H ?_))
    rintro _ h4 ⟨c0, a8, rfl, H⟩
    replace a6 := Ext.row c0 a6
    refine ly (wanted_y rfl rfl rfl a5) rfl (HStep.of_val (v := (.bool (decide (n > a8)))) (vr rfl rfl rfl) ?_)
    refine lv rfl rfl (v := (.bool (decide (n > a8)))) (hv_pick_f rfl a5 rfl) ?_
    refine ln (qn ?_)
    exact ⟨_, ⟨H, a6, trivial⟩, (hc rfl (hc rfl (hc rfl hn)))⟩
  ·rintro ρ h3 ⟨j, ⟨c4, c2, -⟩, hH⟩
   have H := b5 j h3 c4; clear b3 b5
   refine xh _ hH ?_
   refine xc (b := j) rfl (fun b1 => ?_) (fun b1 => ?_)
   ·replace H := H.1 b1
    refine xs (xr ?_)
    refine lv rfl rfl (va rfl) (lv rfl rfl (va rfl) ?_)
    refine ln (qn (xt (qr ?_)))
    exact endQ_ret _ (res_two Tryd.results38 (rv_tmp rfl) (rv_tmp rfl)) H
   ·replace H := H.2 b1
    refine xi (qn (xs (xb ?_)))
    obtain ⟨a9, a7, c3, c1⟩ := H
    refine xl (σ := Int) (fun s => [(1, (.int .i64 s)), (2, (ptr g 0))]) (fun s h' => a9 s ∧ h3 = h') (fun s _ => a7 s) n ⟨c3, rfl⟩ (hc rfl (hc rfl hn)) ?_
    rintro a4 ρ _ ⟨b8, rfl⟩
    have H := c1 a4 b8
    refine xs (xs (xr ?_))
    refine lv rfl rfl (vm rfl) (lv rfl rfl (v := (ptr g 3)) (vf TyTA.fld24_3 (b := g) (o := 0) rfl) (lv rfl rfl (vl TyTA.agg3 rfl (rc c2 rfl)) ?_))
    obtain ⟨b9, H⟩ := H
    refine lv rfl rfl (v := (.int .i64 (Int.tmod a4 a0))) (hv_rem rfl rfl b9) (lv rfl rfl (vr rfl rfl rfl) ?_)
    refine ln (qn ?_)
    refine xc (b := (Int.tmod a4 a0) != 0) rfl (fun b2 => ?_) (fun b2 => ?_)
    ·replace H := H.1 b2
     refine xi (qn (xb (xr ?_)))
     refine lv rfl rfl (vm rfl) (lv rfl rfl (vr rfl rfl rfl) (lv rfl rfl (va rfl) ?_))
     refine ln (bn (qn ?_))
     exact ⟨IntKind.i64.wrap (a4 + 1), ⟨⟨H.1, rfl⟩, H.2⟩, (hc rfl (hc rfl hn))⟩
    ·replace H := H.2 b2
     refine xe (qe (qe (bh (qn (xs (xr ?_))))))
     refine lv rfl rfl (vm rfl) (lv rfl rfl (va rfl) (lv rfl rfl (va rfl) ?_))
     refine ln (qn (xt ?_))
     exact endQ_ret _ (res_two Tryd.results38 (rv_tmp rfl) (rv_tmp rfl)) H
theorem f31_sh (a2 : Int) (a0 : Int) (a1 : Int) (a3 : Int) (h : Heap) (R : Value → Heap → Prop)
  (H : (∀ (g : Nat) (h1 : Heap), Array.size h ≤ g → g < Array.size h1 → Ext h h1 → HC Tryd.prog 59 #[(.agg #[(.int .i64 a2), (.int .i64 a0), (.int .i64 a1), (.int .i64 a3)])] h1 (fun vv h2 => Ext h1 h2 ∧ ∃ r : Int, vv = (.int .i64 r) ∧ (((r != 0) = true → R (.tuple #[(.int .i64 0), (.int .i64 0), (.int .i64 r)]) h2) ∧ ((r != 0) = false → R (.tuple #[(.int .i64 (IntKind.i64.wrap (a2 * a0))), (.int .i64 (IntKind.i64.wrap ((IntKind.i64.wrap (a2 * a0)) * a1))), (.int .i64 0)]) h2))))) :
  HC Tryd.prog 31 #[(.agg #[(.int .i64 a2), (.int .i64 a0), (.int .i64 a1), (.int .i64 a3)])] h R := by
 refine hc_of (args := [(.agg #[(.int .i64 a2), (.int .i64 a0), (.int .i64 a1), (.int .i64 a3)])]) Tryd.func31 rfl Tryd.ntmps31 (Nat.le_of_ble_eq_true rfl) ?_
 refine xs (xr ?_)
 refine lp rfl rfl (hn_box (v := (.agg #[(.int .i64 a2), (.int .i64 a0), (.int .i64 a1), (.int .i64 a3)])) rfl ?_)
 intro g h1 a6 a7
 have a8 := ext_pushed_f44_sh a7
 have b0 : Array.size h ≤ g := Nat.le_of_eq (Eq.symm a6)
 have a4 : h1[g]? = some (.cells #[(.int .i64 a2), (.int .i64 a0), (.int .i64 a1), (.int .i64 a3)] 24 (0, 0)) := by rw [a7]; exact push_new a6
 refine lv rfl rfl (va rfl) (lv rfl rfl (va rfl) (lv rfl rfl (va rfl) ?_))
 refine ln (qn (xs (xs (xr ?_))))
 refine lv rfl rfl (vL (vs := [(.int .i64 a2), (.int .i64 a0), (.int .i64 a1), (.int .i64 a3)]) TyTA.agg24 TyTA.sz24 rfl (cc (rc a4 rfl) (cc (rc a4 rfl) (cc (rc a4 rfl) (cc (rc a4 rfl) cn))))) ?_
 replace H := H g h1 b0 (row_lt a4) a8
 refine lp rfl rfl (sc TyTA.cb59 rfl (HC.mono H ?_))
 rintro _ h2 ⟨a9, r, rfl, H⟩
 replace a4 := Ext.row a9 a4
 refine lv rfl rfl (va rfl) ?_
 refine ln (qn (xs (xr ?_)))
 refine lv rfl rfl (vm rfl) (lv rfl rfl (vr rfl rfl rfl) ?_)
 refine ln (qn ?_)
 refine xc (b := r != 0) rfl (fun a5 => ?_) (fun a5 => ?_)
 ·replace H := H.1 a5
  refine xs (xr ?_)
  refine lv rfl rfl (vm rfl) (lv rfl rfl (va rfl) (lv rfl rfl (va rfl) (lv rfl rfl (va rfl) ?_)))
  refine ln (qn (xt (qr ?_)))
  exact endQ_ret _ (res_three Tryd.results31 (rv_tmp rfl) (rv_tmp rfl) (rv_tmp rfl)) H
 ·replace H := H.2 a5
  refine xi (qn (xs (xr ?_)))
  refine lv rfl rfl (v := (ptr g 0)) (vf TyTA.fld24_0 (b := g) (o := 0) rfl) (lv rfl rfl (vl TyTA.agg3 rfl (rc a4 rfl)) (lv rfl rfl (v := (ptr g 1)) (vf TyTA.fld24_1 (b := g) (o := 0) rfl) (lv rfl rfl (vl TyTA.agg3 rfl (rc a4 rfl)) (lv rfl rfl (vr rfl rfl rfl) (lv rfl rfl (va rfl) ?_)))))
  refine ln (qn (xs ?_))
  refine hx_draw TyTA.mixed [.pure, .pure, .pure, .read, .pure, .pure, .pure, .pure] [0, 1, 2, 3, 4, 5, 6, 7] (by kernel_rfl) ?_
  refine pp (i := 0) rfl (wanted_0 rfl) rfl (.int .i64 (IntKind.i64.wrap (a2 * a0))) (fun _ => vm rfl) ?_
  refine pp (i := 1) rfl (wanted_0 rfl) rfl (.int .i64 (IntKind.i64.wrap (a2 * a0))) (fun _ => vm rfl) ?_
  refine pp (i := 2) rfl (wanted_0 rfl) rfl (ptr g 2) (fun _ => vf TyTA.fld24_2 (b := g) (o := 0) rfl) ?_
  refine pr (i := 3) rfl (wanted_0 rfl) rfl (.int .i64 a1) (fun _ he => vl TyTA.agg3 rfl (Ext.cell he (rc a4 rfl))) ?_
  refine pp (i := 4) rfl (wanted_0 rfl) rfl (.int .i64 (IntKind.i64.wrap ((IntKind.i64.wrap (a2 * a0)) * a1))) (fun _ => vr rfl rfl rfl) ?_
  refine pp (i := 5) rfl (wanted_0 rfl) rfl (.int .i64 (IntKind.i64.wrap (a2 * a0))) (fun _ => va rfl) ?_
  refine pp (i := 6) rfl (wanted_0 rfl) rfl (.int .i64 (IntKind.i64.wrap ((IntKind.i64.wrap (a2 * a0)) * a1))) (fun _ => va rfl) ?_
  refine pp (i := 7) rfl (wanted_0 rfl) rfl (.int .i64 0) (fun _ => va rfl) ?_
  refine hp_nil ?_
  refine qn (xt ?_)
  exact endQ_ret _ (res_three Tryd.results31 (rv_tmp rfl) (rv_tmp rfl) (rv_tmp rfl)) H
theorem f33_sh (a4 : Int) (a2 : Int) (a1 : Int) (a0 : Int) (n : Int) (h : Heap) (R : Value → Heap → Prop)
  (H : (∀ (g : Nat) (h1 : Heap), Array.size h ≤ g → g < Array.size h1 → Ext h h1 → HC Tryd.prog 31 #[(.agg #[(.int .i64 a4), (.int .i64 a2), (.int .i64 a1), (.int .i64 a0)])] h1 (fun vv h2 => Ext h1 h2 ∧ ∃ r0 r1 r2 : Int, vv = (.tuple #[(.int .i64 r0), (.int .i64 r1), (.int .i64 r2)]) ∧ (((r2 != 0) = true → R (.tuple #[(.int .i64 0), (.int .i64 r2)]) h2) ∧ ((r2 != 0) = false → ((((decide (n < 0)) || (decide (n > r1))) = true → R (.tuple #[(.int .i64 0), (.int .i64 23)]) h2) ∧ (((decide (n < 0)) || (decide (n > r1))) = false → (∃ r : Int, HC Tryd.prog 63 #[(.int .i64 n), (.int .i64 a0)] h2 (fun vv h' => vv = (.int .i64 r) ∧ h' = h2) ∧ R (.tuple #[(.int .i64 r), (.int .i64 0)]) h2)))))))) :
  HC Tryd.prog 33 #[(.agg #[(.int .i64 a4), (.int .i64 a2), (.int .i64 a1), (.int .i64 a0)]), (.int .i64 n)] h R := by
 refine hc_of (args := [(.agg #[(.int .i64 a4), (.int .i64 a2), (.int .i64 a1), (.int .i64 a0)]), (.int .i64 n)]) Tryd.func33 rfl Tryd.ntmps33 (Nat.le_of_ble_eq_true rfl) ?_
 refine xs (xr ?_)
 refine lp rfl rfl (hn_box (v := (.agg #[(.int .i64 a4), (.int .i64 a2), (.int .i64 a1), (.int .i64 a0)])) rfl ?_)
 intro g h1 a8 a9
 have b2 := ext_pushed_f44_sh a9
 have b1 : Array.size h ≤ g := Nat.le_of_eq (Eq.symm a8)
 have a5 : h1[g]? = some (.cells #[(.int .i64 a4), (.int .i64 a2), (.int .i64 a1), (.int .i64 a0)] 24 (0, 0)) := by rw [a9]; exact push_new a8
 refine lv rfl rfl (va rfl) (lv rfl rfl (va rfl) ?_)
 refine ln (qn (xs (xr ?_)))
 refine lv rfl rfl (vL (vs := [(.int .i64 a4), (.int .i64 a2), (.int .i64 a1), (.int .i64 a0)]) TyTA.agg24 TyTA.sz24 rfl (cc (rc a5 rfl) (cc (rc a5 rfl) (cc (rc a5 rfl) (cc (rc a5 rfl) cn))))) ?_
 replace H := H g h1 b1 (row_lt a5) b2
 refine lp rfl rfl (sc TyTA.cb31 rfl (HC.mono H ?_))
 rintro _ h2 ⟨b3, r0, r1, r2, rfl, H⟩
 replace a5 := Ext.row b3 a5
 refine lv rfl rfl (vm rfl) (lv rfl rfl (vx rfl rfl) (lv rfl rfl (vx rfl rfl) (lv rfl rfl (vx rfl rfl) (lv rfl rfl (va rfl) (lv rfl rfl (va rfl) ?_)))))
 refine lv rfl rfl (va rfl) ?_
 refine ln (qn (xs (xb (xs (xr ?_)))))
 refine lv rfl rfl (vm rfl) (lv rfl rfl (vr rfl rfl rfl) (lv rfl rfl (va rfl) ?_))
 refine ln (qn ?_)
 refine xc (b := r2 != 0) rfl (fun a7 => ?_) (fun a7 => ?_)
 ·replace H := H.1 a7
  refine xs (xr ?_)
  refine lv rfl rfl (vm rfl) (lv rfl rfl (va rfl) (lv rfl rfl (va rfl) ?_))
  refine ln (qn (xt (br (qr ?_))))
  exact endQ_ret _ (res_two Tryd.results33 (rv_tmp rfl) (rv_tmp rfl)) H
 ·replace H := H.2 a7
  refine xk (fun ρ h' => h2 = h' ∧ Has ρ [(1, (.int .i64 n)), (2, (ptr g 0)), (19, (.bool ((decide (n < 0)) || (decide (n > r1)))))]) ?_ ?_
  ·refine xr ?_
   refine lv rfl rfl (vm rfl) (lv rfl rfl (vr rfl rfl rfl) (lv rfl rfl (vm rfl) ?_))
   rcases bool_or (decide (n < 0)) with a3 | a3
   ·refine lo (wanted_n rfl rfl rfl a3) rfl ?_
    refine lo (wanted_n rfl rfl rfl a3) rfl ?_
    refine lo (wanted_n rfl rfl rfl a3) rfl ?_
    refine lv rfl rfl (v := (.bool true)) (hv_pick_t rfl a3 rfl) (lv rfl rfl (va rfl) ?_)
    refine ln (qn ?_)
    exact ⟨rfl, (hc rfl (hc rfl (hc (show ((.bool true) : Value) = (.bool ((decide (n < 0)) || (decide (n > r1)))) from (by first | rfl | ((try rw [a3]); all_goals first | rfl | (simp only [Bool.true_or, Bool.or_true, Bool.false_or, Bool.or_false, Bool.true_and, Bool.and_true, Bool.false_and, Bool.and_false, Bool.not_true, Bool.not_false, Bool.cond_true, Bool.cond_false]; done)) | simp [a3])) hn)))⟩
   ·refine ly (wanted_y rfl rfl rfl a3) rfl (HStep.of_val (v := (.int .i64 n)) (vm rfl) ?_)
    refine ly (wanted_y rfl rfl rfl a3) rfl (HStep.of_val (v := (.int .i64 r1)) (vm rfl) ?_)
    refine ly (wanted_y rfl rfl rfl a3) rfl (HStep.of_val (v := (.bool (decide (n > r1)))) (vr rfl rfl rfl) ?_)
    refine lv rfl rfl (v := (.bool (decide (n > r1)))) (hv_pick_f rfl a3 rfl) (lv rfl rfl (va rfl) ?_)
    refine ln (qn ?_)
    exact ⟨rfl, (hc rfl (hc rfl (hc (show ((.bool (decide (n > r1))) : Value) = (.bool ((decide (n < 0)) || (decide (n > r1)))) from (by first | rfl | ((try rw [a3]); all_goals first | rfl | (simp only [Bool.true_or, Bool.or_true, Bool.false_or, Bool.or_false, Bool.true_and, Bool.and_true, Bool.false_and, Bool.and_false, Bool.not_true, Bool.not_false, Bool.cond_true, Bool.cond_false]; done)) | simp [a3])) hn)))⟩
  ·rintro ρ _ ⟨rfl, hH⟩
   refine xh _ hH ?_
   refine xc (b := ((decide (n < 0)) || (decide (n > r1)))) rfl (fun a6 => ?_) (fun a6 => ?_)
   ·replace H := H.1 a6
    refine xs (xr ?_)
    refine lv rfl rfl (va rfl) (lv rfl rfl (va rfl) ?_)
    refine ln (qn (xt (br (qr ?_))))
    exact endQ_ret _ (res_two Tryd.results33 (rv_tmp rfl) (rv_tmp rfl)) H
   ·replace H := H.2 a6
    refine xi (bn (qn (xs (xr ?_))))
    refine lv rfl rfl (vm rfl) (lv rfl rfl (v := (ptr g 3)) (vf TyTA.fld24_3 (b := g) (o := 0) rfl) (lv rfl rfl (vl TyTA.agg3 rfl (rc a5 rfl)) ?_))
    obtain ⟨r, b0, H⟩ := H
    refine lv rfl rfl (hv_call TyTA.cb63 (vs := [(.int .i64 n), (.int .i64 a0)]) rfl b0) (lv rfl rfl (va rfl) (lv rfl rfl (va rfl) ?_))
    refine ln (qn (xt ?_))
    exact endQ_ret _ (res_two Tryd.results33 (rv_tmp rfl) (rv_tmp rfl)) H
theorem f59_sh (a1 : Int) (a0 : Int) (a2 : Int) (a3 : Int) (h : Heap) (R : Value → Heap → Prop)
  (H : (∃ j : Bool, (∀ (g : Nat) (h1 : Heap), Array.size h ≤ g → g < Array.size h1 → Ext h h1 → (∃ r : Bool, HC Tryd.prog 81 #[(.int .i64 a1), (.int .i64 16), (.int .i64 4096)] h1 (fun vv h' => vv = (.bool r) ∧ h' = h1) ∧ (((!r) = true → (j = (!r))) ∧ ((!r) = false → ((((decide (a0 < 1)) || (decide (a0 > 64))) = true → (j = ((decide (a0 < 1)) || (decide (a0 > 64))))) ∧ (((decide (a0 < 1)) || (decide (a0 > 64))) = false → (((decide (a2 < 2)) = true → (j = true)) ∧ ((decide (a2 < 2)) = false → (j = (decide (a2 > 256))))))))))) ∧ ((j = true → (∀ (h1 : Heap), Ext h h1 → R (.int .i64 20) h1)) ∧ (j = false → (∀ (g : Nat) (h1 : Heap), Array.size h ≤ g → g < Array.size h1 → Ext h h1 → (∃ a9 : Bool, HC Tryd.prog 81 #[(.int .i64 a3), (.int .i64 1), (.int .i64 a1)] h1 (fun vv h' => vv = (.bool a9) ∧ h' = h1) ∧ (((!a9) = true → R (.int .i64 20) h1) ∧ ((!a9) = false → ((((decide ((IntKind.i64.wrap (a1 * a0)) < 128)) || ((decide ((IntKind.i64.wrap ((IntKind.i64.wrap (a1 * a0)) * a2)) > 1048576)) || (decide ((IntKind.i64.wrap (a1 * a0)) < (IntKind.i64.wrap ((IntKind.i64.wrap ((if a3 > 32 then a3 else 32) + 24)) + 24)))))) = true → R (.int .i64 20) h1) ∧ (((decide ((IntKind.i64.wrap (a1 * a0)) < 128)) || ((decide ((IntKind.i64.wrap ((IntKind.i64.wrap (a1 * a0)) * a2)) > 1048576)) || (decide ((IntKind.i64.wrap (a1 * a0)) < (IntKind.i64.wrap ((IntKind.i64.wrap ((if a3 > 32 then a3 else 32) + 24)) + 24)))))) = false → R (.int .i64 0) h1)))))))))) :
  HC Tryd.prog 59 #[(.agg #[(.int .i64 a1), (.int .i64 a0), (.int .i64 a2), (.int .i64 a3)])] h R := by
 refine hc_of (args := [(.agg #[(.int .i64 a1), (.int .i64 a0), (.int .i64 a2), (.int .i64 a3)])]) Tryd.func59 rfl Tryd.ntmps59 (Nat.le_of_ble_eq_true rfl) ?_
 refine xs (xr ?_)
 refine lp rfl rfl (hn_box (v := (.agg #[(.int .i64 a1), (.int .i64 a0), (.int .i64 a2), (.int .i64 a3)])) rfl ?_)
 intro g h1 b8 c0
 have b6 := ext_pushed_f44_sh c0
 have b9 : Array.size h ≤ g := Nat.le_of_eq (Eq.symm b8)
 have a8 : h1[g]? = some (.cells #[(.int .i64 a1), (.int .i64 a0), (.int .i64 a2), (.int .i64 a3)] 24 (0, 0)) := by rw [c0]; exact push_new b8
 refine lv rfl rfl (va rfl) ?_
 refine ln (qn (xs (xb ?_)))
 obtain ⟨j, b7, b4⟩ := H
 refine xk (fun ρ h' => h1 = h' ∧ Has ρ [(1, (ptr g 0)), (4, (.bool j))]) ?_ ?_
 ·have H := b7; clear b7 b4
  refine xs (xr ?_)
  refine lv rfl rfl (v := (ptr g 0)) (vf TyTA.fld24_0 (b := g) (o := 0) rfl) (lv rfl rfl (vl TyTA.agg3 rfl (rc a8 rfl)) ?_)
  replace H := H g h1 b9 (row_lt a8) b6
  obtain ⟨r, c2, H⟩ := H
  refine lv rfl rfl (hv_call TyTA.cb81 (vs := [(.int .i64 a1), (.int .i64 16), (.int .i64 4096)]) rfl c2) (lv rfl rfl (v := (.bool (!r))) (hv_not (b := r) rfl) (lv rfl rfl (va rfl) ?_))
  refine ln (qn ?_)
  refine xc (b := !r) rfl (fun b5 => ?_) (fun b5 => ?_)
  ·replace H := H.1 b5
   refine xi (qn ?_)
   obtain rfl := H
   exact ⟨rfl, (hc rfl (hc rfl hn))⟩
  ·replace H := H.2 b5
   refine xk (fun ρ h' => h1 = h' ∧ Has ρ [(1, (ptr g 0)), (4, (.bool ((decide (a0 < 1)) || (decide (a0 > 64)))))]) ?_ ?_
   ·refine xr ?_
    refine lv rfl rfl (v := (ptr g 1)) (vf TyTA.fld24_1 (b := g) (o := 0) rfl) (lv rfl rfl (vl TyTA.agg3 rfl (rc a8 rfl)) (lv rfl rfl (vr rfl rfl rfl) (lv rfl rfl (vm rfl) ?_)))
    rcases bool_or (decide (a0 < 1)) with a6 | a6
    ·refine lo (wanted_n rfl rfl rfl a6) rfl ?_
     refine lo (wanted_n rfl rfl rfl a6) rfl ?_
     refine lo (wanted_n rfl rfl rfl a6) rfl ?_
     refine lv rfl rfl (v := (.bool true)) (hv_pick_t rfl a6 rfl) (lv rfl rfl (va rfl) ?_)
     refine ln (qn ?_)
     exact ⟨rfl, (hc rfl (hc (show ((.bool true) : Value) = (.bool ((decide (a0 < 1)) || (decide (a0 > 64)))) from (by first | rfl | ((try rw [a6]); all_goals first | rfl | (simp only [Bool.true_or, Bool.or_true, Bool.false_or, Bool.or_false, Bool.true_and, Bool.and_true, Bool.false_and, Bool.and_false, Bool.not_true, Bool.not_false, Bool.cond_true, Bool.cond_false]; done)) | simp [a6])) hn))⟩
    ·refine ly (wanted_y rfl rfl rfl a6) rfl (HStep.of_val (v := (ptr g 1)) (vf TyTA.fld24_1 (b := g) (o := 0) rfl) ?_)
     refine ly (wanted_y rfl rfl rfl a6) rfl (HStep.of_val (v := (.int .i64 a0)) (vl TyTA.agg3 rfl (rc a8 rfl)) ?_)
     refine ly (wanted_y rfl rfl rfl a6) rfl (HStep.of_val (v := (.bool (decide (a0 > 64)))) (vr rfl rfl rfl) ?_)
     refine lv rfl rfl (v := (.bool (decide (a0 > 64)))) (hv_pick_f rfl a6 rfl) (lv rfl rfl (va rfl) ?_)
     refine ln (qn ?_)
     exact ⟨rfl, (hc rfl (hc (show ((.bool (decide (a0 > 64))) : Value) = (.bool ((decide (a0 < 1)) || (decide (a0 > 64)))) from (by first | rfl | ((try rw [a6]); all_goals first | rfl | (simp only [Bool.true_or, Bool.or_true, Bool.false_or, Bool.or_false, Bool.true_and, Bool.and_true, Bool.false_and, Bool.and_false, Bool.not_true, Bool.not_false, Bool.cond_true, Bool.cond_false]; done)) | simp [a6])) hn))⟩
   ·rintro ρ _ ⟨rfl, hH⟩
    refine xh _ hH ?_
    refine xc (b := ((decide (a0 < 1)) || (decide (a0 > 64)))) rfl (fun b1 => ?_) (fun b1 => ?_)
    ·replace H := H.1 b1
     refine xi (qn ?_)
     obtain rfl := H
     exact ⟨rfl, (hc rfl (hc rfl hn))⟩
    ·replace H := H.2 b1
     refine xr ?_
     refine lv rfl rfl (v := (ptr g 2)) (vf TyTA.fld24_2 (b := g) (o := 0) rfl) (lv rfl rfl (vl TyTA.agg3 rfl (rc a8 rfl)) (lv rfl rfl (vr rfl rfl rfl) (lv rfl rfl (vm rfl) ?_)))
     rcases bool_or (decide (a2 < 2)) with a7 | a7
     ·replace H := H.1 a7
      refine lo (wanted_n rfl rfl rfl a7) rfl ?_
      refine lo (wanted_n rfl rfl rfl a7) rfl ?_
      refine lo (wanted_n rfl rfl rfl a7) rfl ?_
      refine lv rfl rfl (v := (.bool true)) (hv_pick_t rfl a7 rfl) (lv rfl rfl (va rfl) ?_)
      refine ln (qn ?_)
      obtain rfl := H
      exact ⟨rfl, (hc rfl (hc rfl hn))⟩
     ·replace H := H.2 a7
      refine ly (wanted_y rfl rfl rfl a7) rfl (HStep.of_val (v := (ptr g 2)) (vf TyTA.fld24_2 (b := g) (o := 0) rfl) ?_)
      refine ly (wanted_y rfl rfl rfl a7) rfl (HStep.of_val (v := (.int .i64 a2)) (vl TyTA.agg3 rfl (rc a8 rfl)) ?_)
      refine ly (wanted_y rfl rfl rfl a7) rfl (HStep.of_val (v := (.bool (decide (a2 > 256)))) (vr rfl rfl rfl) ?_)
      refine lv rfl rfl (v := (.bool (decide (a2 > 256)))) (hv_pick_f rfl a7 rfl) (lv rfl rfl (va rfl) ?_)
      refine ln (qn ?_)
      obtain rfl := H
      exact ⟨rfl, (hc rfl (hc rfl hn))⟩
 ·have H := b4; clear b7 b4
  rintro ρ _ ⟨rfl, hH⟩
  refine xh _ hH ?_
  refine xc (b := j) rfl (fun b0 => ?_) (fun b0 => ?_)
  ·replace H := H.1 b0
   refine xs (xr ?_)
   refine lv rfl rfl (va rfl) ?_
   refine ln (qn (xt (br (qr ?_))))
   replace H := H h1 b6
   exact endQ_ret _ (res_one Tryd.results59 (rv_tmp rfl)) H
  ·replace H := H.2 b0
   refine xs (xr ?_)
   refine lv rfl rfl (v := (ptr g 3)) (vf TyTA.fld24_3 (b := g) (o := 0) rfl) (lv rfl rfl (vl TyTA.agg3 rfl (rc a8 rfl)) (lv rfl rfl (v := (ptr g 0)) (vf TyTA.fld24_0 (b := g) (o := 0) rfl) (lv rfl rfl (vl TyTA.agg3 rfl (rc a8 rfl)) ?_)))
   replace H := H g h1 b9 (row_lt a8) b6
   obtain ⟨a9, c1, H⟩ := H
   refine lv rfl rfl (hv_call TyTA.cb81 (vs := [(.int .i64 a3), (.int .i64 1), (.int .i64 a1)]) rfl c1) (lv rfl rfl (v := (.bool (!a9))) (hv_not (b := a9) rfl) (lv rfl rfl (va rfl) ?_))
   refine ln (qn ?_)
   refine xc (b := !a9) rfl (fun b2 => ?_) (fun b2 => ?_)
   ·replace H := H.1 b2
    refine xs (xr ?_)
    refine lv rfl rfl (va rfl) ?_
    refine ln (qn (xt (br (qr ?_))))
    exact endQ_ret _ (res_one Tryd.results59 (rv_tmp rfl)) H
   ·replace H := H.2 b2
    refine xi (bn (qn (xs (xr ?_))))
    refine lv rfl rfl (v := (ptr g 0)) (vf TyTA.fld24_0 (b := g) (o := 0) rfl) (lv rfl rfl (vl TyTA.agg3 rfl (rc a8 rfl)) (lv rfl rfl (v := (ptr g 1)) (vf TyTA.fld24_1 (b := g) (o := 0) rfl) (lv rfl rfl (vl TyTA.agg3 rfl (rc a8 rfl)) (lv rfl rfl (vr rfl rfl rfl) (lv rfl rfl (va rfl) ?_)))))
    refine ln (qn (xs ?_))
    refine xk (fun ρ h' => h1 = h' ∧ Has ρ [(54, (.bool ((decide ((IntKind.i64.wrap (a1 * a0)) < 128)) || ((decide ((IntKind.i64.wrap ((IntKind.i64.wrap (a1 * a0)) * a2)) > 1048576)) || (decide ((IntKind.i64.wrap (a1 * a0)) < (IntKind.i64.wrap ((IntKind.i64.wrap ((if a3 > 32 then a3 else 32) + 24)) + 24))))))))]) ?_ ?_
    ·refine xr ?_
     refine lv rfl rfl (vm rfl) (lv rfl rfl (vr rfl rfl rfl) (lv rfl rfl (vm rfl) ?_))
     rcases bool_or (decide ((IntKind.i64.wrap (a1 * a0)) < 128)) with a5 | a5
     ·refine lo (wanted_n rfl rfl rfl a5) rfl ?_
      refine lo (wanted_n rfl rfl rfl a5) rfl ?_
      refine lo (wanted_n rfl rfl rfl a5) rfl ?_
      refine lo (wanted_n rfl rfl rfl a5) rfl ?_
      refine lo (wanted_n rfl rfl rfl a5) rfl ?_
      refine lv rfl rfl (v := (.bool true)) (hv_pick_t rfl a5 rfl) (lv rfl rfl (vm rfl) ?_)
      refine lo (wanted_n rfl rfl (c := true) rfl rfl) rfl ?_
      refine lo (wanted_n rfl rfl (c := true) rfl rfl) rfl ?_
      refine lo (wanted_n rfl rfl (c := true) rfl rfl) rfl ?_
      refine lo (wanted_n rfl rfl (c := true) rfl rfl) rfl ?_
      refine lo (wanted_n rfl rfl (c := true) rfl rfl) rfl ?_
      refine lo (wanted_n rfl rfl (c := true) rfl rfl) rfl ?_
      refine lo (wanted_n rfl rfl (c := true) rfl rfl) rfl ?_
      refine lv rfl rfl (v := (.bool true)) (hv_pick (t := true) rfl rfl) ?_
      refine ln (qn ?_)
      exact ⟨rfl, (hc (show ((.bool true) : Value) = (.bool ((decide ((IntKind.i64.wrap (a1 * a0)) < 128)) || ((decide ((IntKind.i64.wrap ((IntKind.i64.wrap (a1 * a0)) * a2)) > 1048576)) || (decide ((IntKind.i64.wrap (a1 * a0)) < (IntKind.i64.wrap ((IntKind.i64.wrap ((if a3 > 32 then a3 else 32) + 24)) + 24))))))) from (by first | rfl | ((try rw [a5]); all_goals first | rfl | (simp only [Bool.true_or, Bool.or_true, Bool.false_or, Bool.or_false, Bool.true_and, Bool.and_true, Bool.false_and, Bool.and_false, Bool.not_true, Bool.not_false, Bool.cond_true, Bool.cond_false]; done)) | simp [a5])) hn)⟩
     ·refine ly (wanted_y rfl rfl rfl a5) rfl (HStep.of_val (v := (.int .i64 (IntKind.i64.wrap (a1 * a0)))) (vm rfl) ?_)
      refine ly (wanted_y rfl rfl rfl a5) rfl (HStep.of_val (v := (ptr g 2)) (vf TyTA.fld24_2 (b := g) (o := 0) rfl) ?_)
      refine ly (wanted_y rfl rfl rfl a5) rfl (HStep.of_val (v := (.int .i64 a2)) (vl TyTA.agg3 rfl (rc a8 rfl)) ?_)
      refine ly (wanted_y rfl rfl rfl a5) rfl (HStep.of_val (v := (.int .i64 (IntKind.i64.wrap ((IntKind.i64.wrap (a1 * a0)) * a2)))) (vr rfl rfl rfl) ?_)
      refine ly (wanted_y rfl rfl rfl a5) rfl (HStep.of_val (v := (.bool (decide ((IntKind.i64.wrap ((IntKind.i64.wrap (a1 * a0)) * a2)) > 1048576)))) (vr rfl rfl rfl) ?_)
      refine lv rfl rfl (v := (.bool (decide ((IntKind.i64.wrap ((IntKind.i64.wrap (a1 * a0)) * a2)) > 1048576)))) (hv_pick_f rfl a5 rfl) (lv rfl rfl (vm rfl) ?_)
      rcases bool_or (decide ((IntKind.i64.wrap ((IntKind.i64.wrap (a1 * a0)) * a2)) > 1048576)) with a4 | a4
      ·refine lo (wanted_n rfl rfl rfl a4) rfl ?_
       refine lo (wanted_n rfl rfl rfl a4) rfl ?_
       refine lo (wanted_n rfl rfl rfl a4) rfl ?_
       refine lo (wanted_n rfl rfl rfl a4) rfl ?_
       refine lo (wanted_n rfl rfl rfl a4) rfl ?_
       refine lo (wanted_n rfl rfl rfl a4) rfl ?_
       refine lo (wanted_n rfl rfl rfl a4) rfl ?_
       refine lv rfl rfl (v := (.bool true)) (hv_pick_t rfl a4 rfl) ?_
       refine ln (qn ?_)
       exact ⟨rfl, (hc (show ((.bool true) : Value) = (.bool ((decide ((IntKind.i64.wrap (a1 * a0)) < 128)) || ((decide ((IntKind.i64.wrap ((IntKind.i64.wrap (a1 * a0)) * a2)) > 1048576)) || (decide ((IntKind.i64.wrap (a1 * a0)) < (IntKind.i64.wrap ((IntKind.i64.wrap ((if a3 > 32 then a3 else 32) + 24)) + 24))))))) from (by first | rfl | ((try rw [a5]); (try rw [a4]); all_goals first | rfl | (simp only [Bool.true_or, Bool.or_true, Bool.false_or, Bool.or_false, Bool.true_and, Bool.and_true, Bool.false_and, Bool.and_false, Bool.not_true, Bool.not_false, Bool.cond_true, Bool.cond_false]; done)) | simp [a5, a4])) hn)⟩
      ·refine ly (wanted_y rfl rfl rfl a4) rfl (HStep.of_val (v := (.int .i64 (IntKind.i64.wrap (a1 * a0)))) (vm rfl) ?_)
       refine ly (wanted_y rfl rfl rfl a4) rfl (HStep.of_val (v := (ptr g 3)) (vf TyTA.fld24_3 (b := g) (o := 0) rfl) ?_)
       refine ly (wanted_y rfl rfl rfl a4) rfl (HStep.of_val (v := (.int .i64 a3)) (vl TyTA.agg3 rfl (rc a8 rfl)) ?_)
       refine ly (wanted_y rfl rfl rfl a4) rfl (HStep.of_val (v := (.int .i64 (if a3 > 32 then a3 else 32))) (hv_max rfl rfl) ?_)
       refine ly (wanted_y rfl rfl rfl a4) rfl (HStep.of_val (v := (.int .i64 (IntKind.i64.wrap ((if a3 > 32 then a3 else 32) + 24)))) (vr rfl rfl rfl) ?_)
       refine ly (wanted_y rfl rfl rfl a4) rfl (HStep.of_val (v := (.int .i64 (IntKind.i64.wrap ((IntKind.i64.wrap ((if a3 > 32 then a3 else 32) + 24)) + 24)))) (vr rfl rfl rfl) ?_)
       refine ly (wanted_y rfl rfl rfl a4) rfl (HStep.of_val (v := (.bool (decide ((IntKind.i64.wrap (a1 * a0)) < (IntKind.i64.wrap ((IntKind.i64.wrap ((if a3 > 32 then a3 else 32) + 24)) + 24)))))) (vr rfl rfl rfl) ?_)
       refine lv rfl rfl (v := (.bool (decide ((IntKind.i64.wrap (a1 * a0)) < (IntKind.i64.wrap ((IntKind.i64.wrap ((if a3 > 32 then a3 else 32) + 24)) + 24)))))) (hv_pick_f rfl a4 rfl) ?_
       refine ln (qn ?_)
       exact ⟨rfl, (hc (show ((.bool (decide ((IntKind.i64.wrap (a1 * a0)) < (IntKind.i64.wrap ((IntKind.i64.wrap ((if a3 > 32 then a3 else 32) + 24)) + 24))))) : Value) = (.bool ((decide ((IntKind.i64.wrap (a1 * a0)) < 128)) || ((decide ((IntKind.i64.wrap ((IntKind.i64.wrap (a1 * a0)) * a2)) > 1048576)) || (decide ((IntKind.i64.wrap (a1 * a0)) < (IntKind.i64.wrap ((IntKind.i64.wrap ((if a3 > 32 then a3 else 32) + 24)) + 24))))))) from (by first | rfl | ((try rw [a5]); (try rw [a4]); all_goals first | rfl | (simp only [Bool.true_or, Bool.or_true, Bool.false_or, Bool.or_false, Bool.true_and, Bool.and_true, Bool.false_and, Bool.and_false, Bool.not_true, Bool.not_false, Bool.cond_true, Bool.cond_false]; done)) | simp [a5, a4])) hn)⟩
    ·rintro ρ _ ⟨rfl, hH⟩
     refine xh _ hH ?_
     refine xc (b := ((decide ((IntKind.i64.wrap (a1 * a0)) < 128)) || ((decide ((IntKind.i64.wrap ((IntKind.i64.wrap (a1 * a0)) * a2)) > 1048576)) || (decide ((IntKind.i64.wrap (a1 * a0)) < (IntKind.i64.wrap ((IntKind.i64.wrap ((if a3 > 32 then a3 else 32) + 24)) + 24))))))) rfl (fun b3 => ?_) (fun b3 => ?_)
     ·replace H := H.1 b3
      refine xs (xr ?_)
      refine lv rfl rfl (va rfl) ?_
      refine ln (qn (xt (qr ?_)))
      exact endQ_ret _ (res_one Tryd.results59 (rv_tmp rfl)) H
     ·replace H := H.2 b3
      refine xi (qn (xs (xr ?_)))
      refine lv rfl rfl (va rfl) ?_
      refine ln (qn (xt ?_))
      exact endQ_ret _ (res_one Tryd.results59 (rv_tmp rfl)) H
theorem f63_sh (n : Int) (a0 : Int) (h : Heap) (R : Value → Heap → Prop)
  (H : R (.int .i64 (ibandNot .i64 (IntKind.i64.wrap ((IntKind.i64.wrap (n + a0)) - 1)) (IntKind.i64.wrap (a0 - 1)))) h) :
  HC Tryd.prog 63 #[(.int .i64 n), (.int .i64 a0)] h R := by
 refine hc_of (args := [(.int .i64 n), (.int .i64 a0)]) Tryd.func63 rfl Tryd.ntmps63 (Nat.le_of_ble_eq_true rfl) ?_
 refine xs (xr ?_)
 refine lv rfl rfl (va rfl) ?_
 refine ln (qn (xs (xr ?_)))
 refine lv rfl rfl (vm rfl) (lv rfl rfl (vm rfl) (lv rfl rfl (vr rfl rfl rfl) (lv rfl rfl (vr rfl rfl rfl) (lv rfl rfl (vm rfl) (lv rfl rfl (vr rfl rfl rfl) ?_)))))
 refine lv rfl rfl (v := (.int .i64 (ibandNot .i64 (IntKind.i64.wrap ((IntKind.i64.wrap (n + a0)) - 1)) (IntKind.i64.wrap (a0 - 1))))) (hv_bits rfl rfl rfl) (lv rfl rfl (va rfl) ?_)
 refine ln (qn (xt ?_))
 exact endQ_ret _ (res_one Tryd.results63 (rv_tmp rfl)) H
theorem f81_sh (n : Int) (a3 : Int) (a1 : Int) (h : Heap) (R : Value → Heap → Prop)
  (H : R (.bool ((decide (n ≥ a3)) && ((decide (n ≤ a1)) && ((iband .i64 n (IntKind.i64.wrap (n - 1))) == 0)))) h) :
  HC Tryd.prog 81 #[(.int .i64 n), (.int .i64 a3), (.int .i64 a1)] h R := by
 refine hc_of (args := [(.int .i64 n), (.int .i64 a3), (.int .i64 a1)]) Tryd.func81 rfl Tryd.ntmps81 (Nat.le_of_ble_eq_true rfl) ?_
 refine xs (xr ?_)
 refine lv rfl rfl (va rfl) ?_
 refine ln (qn ?_)
 refine xk (fun ρ h' => h = h' ∧ Has ρ [(6, (.bool ((decide (n ≥ a3)) && ((decide (n ≤ a1)) && ((iband .i64 n (IntKind.i64.wrap (n - 1))) == 0)))))]) ?_ ?_
 ·refine xr ?_
  refine lv rfl rfl (vm rfl) (lv rfl rfl (vm rfl) (lv rfl rfl (vr rfl rfl rfl) (lv rfl rfl (vm rfl) ?_)))
  rcases bool_or (decide (n ≥ a3)) with a2 | a2
  ·refine ly (wanted_y rfl rfl rfl a2) rfl (HStep.of_val (v := (.int .i64 n)) (vm rfl) ?_)
   refine ly (wanted_y rfl rfl rfl a2) rfl (HStep.of_val (v := (.int .i64 a1)) (vm rfl) ?_)
   refine ly (wanted_y rfl rfl rfl a2) rfl (HStep.of_val (v := (.bool (decide (n ≤ a1)))) (vr rfl rfl rfl) ?_)
   refine lv rfl rfl (v := (.bool (decide (n ≤ a1)))) (hv_pick_t rfl a2 rfl) (lv rfl rfl (vm rfl) ?_)
   rcases bool_or (decide (n ≤ a1)) with a0 | a0
   ·refine ly (wanted_y rfl rfl rfl a0) rfl (HStep.of_val (v := (.int .i64 n)) (vm rfl) ?_)
    refine ly (wanted_y rfl rfl rfl a0) rfl (HStep.of_val (v := (.int .i64 n)) (vm rfl) ?_)
    refine ly (wanted_y rfl rfl rfl a0) rfl (HStep.of_val (v := (.int .i64 (IntKind.i64.wrap (n - 1)))) (vr rfl rfl rfl) ?_)
    refine ly (wanted_y rfl rfl rfl a0) rfl (HStep.of_val (v := (.int .i64 (iband .i64 n (IntKind.i64.wrap (n - 1))))) (hv_bits rfl rfl rfl) ?_)
    refine ly (wanted_y rfl rfl rfl a0) rfl (HStep.of_val (v := (.bool ((iband .i64 n (IntKind.i64.wrap (n - 1))) == 0))) (vr rfl rfl rfl) ?_)
    refine lv rfl rfl (v := (.bool ((iband .i64 n (IntKind.i64.wrap (n - 1))) == 0))) (hv_pick_t rfl a0 rfl) (lv rfl rfl (va rfl) ?_)
    refine ln (qn ?_)
    exact ⟨rfl, (hc (show ((.bool ((iband .i64 n (IntKind.i64.wrap (n - 1))) == 0)) : Value) = (.bool ((decide (n ≥ a3)) && ((decide (n ≤ a1)) && ((iband .i64 n (IntKind.i64.wrap (n - 1))) == 0)))) from (by first | rfl | ((try rw [a2]); (try rw [a0]); all_goals first | rfl | (simp only [Bool.true_or, Bool.or_true, Bool.false_or, Bool.or_false, Bool.true_and, Bool.and_true, Bool.false_and, Bool.and_false, Bool.not_true, Bool.not_false, Bool.cond_true, Bool.cond_false]; done)) | simp [a2, a0])) hn)⟩
   ·refine lo (wanted_n rfl rfl rfl a0) rfl ?_
    refine lo (wanted_n rfl rfl rfl a0) rfl ?_
    refine lo (wanted_n rfl rfl rfl a0) rfl ?_
    refine lo (wanted_n rfl rfl rfl a0) rfl ?_
    refine lo (wanted_n rfl rfl rfl a0) rfl ?_
    refine lv rfl rfl (v := (.bool false)) (hv_pick_f rfl a0 rfl) (lv rfl rfl (va rfl) ?_)
    refine ln (qn ?_)
    exact ⟨rfl, (hc (show ((.bool false) : Value) = (.bool ((decide (n ≥ a3)) && ((decide (n ≤ a1)) && ((iband .i64 n (IntKind.i64.wrap (n - 1))) == 0)))) from (by first | rfl | ((try rw [a2]); (try rw [a0]); all_goals first | rfl | (simp only [Bool.true_or, Bool.or_true, Bool.false_or, Bool.or_false, Bool.true_and, Bool.and_true, Bool.false_and, Bool.and_false, Bool.not_true, Bool.not_false, Bool.cond_true, Bool.cond_false]; done)) | simp [a2, a0])) hn)⟩
  ·refine lo (wanted_n rfl rfl rfl a2) rfl ?_
   refine lo (wanted_n rfl rfl rfl a2) rfl ?_
   refine lo (wanted_n rfl rfl rfl a2) rfl ?_
   refine lv rfl rfl (v := (.bool false)) (hv_pick_f rfl a2 rfl) (lv rfl rfl (vm rfl) ?_)
   refine lo (wanted_n rfl rfl (c := false) rfl rfl) rfl ?_
   refine lo (wanted_n rfl rfl (c := false) rfl rfl) rfl ?_
   refine lo (wanted_n rfl rfl (c := false) rfl rfl) rfl ?_
   refine lo (wanted_n rfl rfl (c := false) rfl rfl) rfl ?_
   refine lo (wanted_n rfl rfl (c := false) rfl rfl) rfl ?_
   refine lv rfl rfl (v := (.bool false)) (hv_pick (t := false) rfl rfl) (lv rfl rfl (va rfl) ?_)
   refine ln (qn ?_)
   exact ⟨rfl, (hc (show ((.bool false) : Value) = (.bool ((decide (n ≥ a3)) && ((decide (n ≤ a1)) && ((iband .i64 n (IntKind.i64.wrap (n - 1))) == 0)))) from (by first | rfl | ((try rw [a2]); all_goals first | rfl | (simp only [Bool.true_or, Bool.or_true, Bool.false_or, Bool.or_false, Bool.true_and, Bool.and_true, Bool.false_and, Bool.and_false, Bool.not_true, Bool.not_false, Bool.cond_true, Bool.cond_false]; done)) | simp [a2])) hn)⟩
 ·rintro ρ _ ⟨rfl, hH⟩
  refine xh _ hH ?_
  refine xt ?_
  exact endQ_ret _ (res_one Tryd.results81 (rv_tmp rfl)) H
theorem f30_sh  (h : Heap) (R : Value → Heap → Prop)
  (H : (∀ (h2 : Heap), Ext h h2 → R (.agg #[(.int .i64 64), (.int .i64 4), (.int .i64 3), (.int .i64 8)]) h2)) :
  HC Tryd.prog 30 #[] h R := by
 refine hc_of (args := []) Tryd.func30 rfl Tryd.ntmps30 (Nat.le_of_ble_eq_true rfl) ?_
 refine xs (xr ?_)
 refine lp rfl rfl (hn_alloc TyTA.z24 ?_)
 intro pb h1 a3 a4
 have a5 := ext_pushed_f44_sh a4
 have a7 : Array.size h ≤ pb := Nat.le_of_eq (Eq.symm a3)
 have a1 : h1[pb]? = some (.cells #[(.int .i64 0), (.int .i64 0), (.int .i64 0), (.int .i64 0)] 24 (0, 0)) := by rw [a4]; exact push_new a3
 refine ln (qn (xs (xr ?_)))
 refine lv rfl rfl (v := (.agg #[(.int .i64 64), (.int .i64 4), (.int .i64 3), (.int .i64 8)])) (vb (vs := [(0, (.int .i64 64)), (1, (.int .i64 4)), (2, (.int .i64 3)), (3, (.int .i64 8))]) (cs := #[(.int .i64 64), (.int .i64 4), (.int .i64 3), (.int .i64 8)]) TyTA.z24 TyTA.pl24 rfl (by kernel_rfl)) ?_
 refine lp rfl rfl (hn_stores (vs := [(.int .i64 64), (.int .i64 4), (.int .i64 3), (.int .i64 8)]) rfl rfl TyTA.sz24 rfl (HWs_row a1 (by simp)) ?_)
 intro h2 a2
 have a0 : h2[pb]? = some (.cells #[(.int .i64 64), (.int .i64 4), (.int .i64 3), (.int .i64 8)] 24 (0, 0)) := row_hsets_eq a2 a1 rfl
 have a6 := ext_hsets a2 a5 a7
 refine ln (qn (xt ?_))
 replace H := H h2 a6
 exact endQ_ret _ (res_one Tryd.results30 (rv_cell (vs := [(.int .i64 64), (.int .i64 4), (.int .i64 3), (.int .i64 8)]) TyTA.agg24 TyTA.sz24 rfl (cc (rc a0 rfl) (cc (rc a0 rfl) (cc (rc a0 rfl) (cc (rc a0 rfl) cn)))))) H
theorem f36_sh (a0 : Int) (h : Heap) (R : Value → Heap → Prop)
  (H : R (.int .u32 (IntKind.u32.wrap a0)) h) :
  HC Tryd.prog 36 #[(.int .u64 a0)] h R := by
 refine hc_of (args := [(.int .u64 a0)]) Tryd.func36 rfl Tryd.ntmps36 (Nat.le_of_ble_eq_true rfl) ?_
 refine xs (xr ?_)
 refine lv rfl rfl (va rfl) ?_
 refine ln (qn (xs (xr ?_)))
 refine lv rfl rfl (vm rfl) (lv rfl rfl (v := (.int .u32 (IntKind.u32.wrap a0))) (hv_convInt TyTA.u29 TyTA.u86 rfl) (lv rfl rfl (va rfl) ?_))
 refine ln (qn (xt ?_))
 exact endQ_ret _ (res_one Tryd.results36 (rv_tmp rfl)) H
theorem f40_sh (a0 : Int) (h : Heap) (R : Value → Heap → Prop)
  (H : R (.int .u32 (IntKind.u32.wrap (Int.tmod a0 4294967296))) h) :
  HC Tryd.prog 40 #[(.int .u64 a0)] h R := by
 refine hc_of (args := [(.int .u64 a0)]) Tryd.func40 rfl Tryd.ntmps40 (Nat.le_of_ble_eq_true rfl) ?_
 refine xs (xr ?_)
 refine lv rfl rfl (va rfl) ?_
 refine ln (qn (xs (xr ?_)))
 refine lv rfl rfl (vm rfl) (lv rfl rfl (v := (.int .u64 (Int.tmod a0 4294967296))) (hv_rem rfl rfl (by decide)) (lv rfl rfl (v := (.int .u32 (IntKind.u32.wrap (Int.tmod a0 4294967296)))) (hv_convInt TyTA.u29 TyTA.u86 rfl) (lv rfl rfl (va rfl) ?_)))
 refine ln (qn (xt ?_))
 exact endQ_ret _ (res_one Tryd.results40 (rv_tmp rfl)) H
theorem f42_sh (n : Int) (h : Heap) (R : Value → Heap → Prop)
  (H : (∃ (I1 : Int → Int → Prop) (a1 : Int → Int → Nat), I1 n 0 ∧ (∀ (a0 : Int) (k : Int), I1 a0 k → (((decide (a0 > 1)) = true → (I1 (IntKind.i64.wrap (Int.tdiv a0 2)) (IntKind.i64.wrap (k + 1)) ∧ a1 (IntKind.i64.wrap (Int.tdiv a0 2)) (IntKind.i64.wrap (k + 1)) < a1 a0 k)) ∧ ((decide (a0 > 1)) = false → R (.int .u8 (IntKind.u8.wrap k)) h))))) :
  HC Tryd.prog 42 #[(.int .i64 n)] h R := by
 refine hc_of (args := [(.int .i64 n)]) Tryd.func42 rfl Tryd.ntmps42 (Nat.le_of_ble_eq_true rfl) ?_
 refine xs (xr ?_)
 refine lv rfl rfl (va rfl) ?_
 refine ln (qn (xs (xr ?_)))
 refine lv rfl rfl (va rfl) ?_
 refine ln (qn (xs (xb ?_)))
 obtain ⟨I1, a1, a4, a3⟩ := H
 refine xl (σ := Int × Int) (fun s => [(0, (.int .i64 s.1)), (3, (.int .i64 s.2))]) (fun s h' => I1 s.1 s.2 ∧ h = h') (fun s _ => a1 s.1 s.2) (n, 0) ⟨a4, rfl⟩ (hc rfl (hc rfl hn)) ?_
 rintro ⟨a0, k⟩ ρ _ ⟨a5, rfl⟩
 have H := a3 a0 k a5
 refine xs (xs (xr ?_))
 refine lv rfl rfl (vm rfl) (lv rfl rfl (vr rfl rfl rfl) ?_)
 refine ln (qn ?_)
 refine xc (b := decide (a0 > 1)) rfl (fun a2 => ?_) (fun a2 => ?_)
 ·replace H := H.1 a2
  refine xi (qn (xb (xs (xr ?_))))
  refine lv rfl rfl (vm rfl) (lv rfl rfl (v := (.int .i64 (IntKind.i64.wrap (Int.tdiv a0 2)))) (hv_quo rfl rfl (by decide)) (lv rfl rfl (va rfl) ?_))
  refine ln (qn (xr ?_))
  refine lv rfl rfl (vm rfl) (lv rfl rfl (vr rfl rfl rfl) (lv rfl rfl (va rfl) ?_))
  refine ln (bn (qn ?_))
  exact ⟨(IntKind.i64.wrap (Int.tdiv a0 2), IntKind.i64.wrap (k + 1)), ⟨⟨H.1, rfl⟩, H.2⟩, (hc rfl (hc rfl hn))⟩
 ·replace H := H.2 a2
  refine xe (qe (qe (bh (qn (xs (xr ?_))))))
  refine lv rfl rfl (vm rfl) (lv rfl rfl (v := (.int .u8 (IntKind.u8.wrap k))) (hv_convInt TyTA.u3 TyTA.u5 rfl) (lv rfl rfl (va rfl) ?_))
  refine ln (qn (xt ?_))
  exact endQ_ret _ (res_one Tryd.results42 (rv_tmp rfl)) H
theorem f60_sh (b : Option Addr) (a0 : Nat) (a2 : Nat) (h : Heap) (R : Value → Heap → Prop)
  (H : (∃ (I1 : Int → Int → Prop) (a1 : Int → Int → Nat), I1 0 0 ∧ (∀ (n : Int) (v : Int), I1 n v → (((decide (v < (a0 : Int))) = true → (∃ a4 a3 : Nat, b = some ⟨a4, a3, none⟩ ∧ (0 : Int) ≤ v ∧ v < (a0 : Int) ∧ (∃ x : Int, hcell h a4 (a3 + (Int.toNat v) * 1) = some (.int .u8 x) ∧ ((0 : Int) ≤ IntKind.i64.wrap (8 * v) ∧ (I1 (ibor .u64 n (IntKind.u64.wrap ((IntKind.u64.wrap x) * 2 ^ min (Int.toNat (IntKind.i64.wrap (8 * v))) 64))) (IntKind.i64.wrap (v + 1)) ∧ a1 (ibor .u64 n (IntKind.u64.wrap ((IntKind.u64.wrap x) * 2 ^ min (Int.toNat (IntKind.i64.wrap (8 * v))) 64))) (IntKind.i64.wrap (v + 1)) < a1 n v))))) ∧ ((decide (v < (a0 : Int))) = false → R (.int .u64 n) h))))) :
  HC Tryd.prog 60 #[(.slice b a0 a2)] h R := by
 refine hc_of (args := [(.slice b a0 a2)]) Tryd.func60 rfl Tryd.ntmps60 (Nat.le_of_ble_eq_true rfl) ?_
 refine xs (xr ?_)
 refine lv rfl rfl (va rfl) ?_
 refine ln (qn (xs (xr ?_)))
 refine lv rfl rfl (va rfl) ?_
 refine ln (qn (xs (xs (xr ?_))))
 refine lv rfl rfl (vm rfl) (lv rfl rfl (v := (.int .i64 (a0 : Int))) (hv_len (n := a0) TyTA.u25 rfl) (lv rfl rfl (vm rfl) ?_))
 refine ln (qn (xb ?_))
 obtain ⟨I1, a1, a8, b2⟩ := H
 refine xl (σ := Int × Int) (fun s => [(3, (.int .u64 s.1)), (6, (.slice b a0 a2)), (7, (.int .i64 (a0 : Int))), (8, (.int .i64 s.2))]) (fun s h' => I1 s.1 s.2 ∧ h = h') (fun s _ => a1 s.1 s.2) (0, 0) ⟨a8, rfl⟩ (hc rfl (hc rfl (hc rfl (hc rfl hn)))) ?_
 rintro ⟨n, v⟩ ρ _ ⟨b3, rfl⟩
 have H := b2 n v b3
 refine xs (xr ?_)
 refine lv rfl rfl (vr rfl rfl rfl) ?_
 refine ln (qn (xs ?_))
 refine xc (b := decide (v < (a0 : Int))) rfl (fun a5 => ?_) (fun a5 => ?_)
 ·replace H := H.1 a5
  refine xi (qn (xs (xb (xs (xr ?_)))))
  refine lv rfl rfl (vm rfl) ?_
  obtain ⟨a4, a3, b0, a7, b1, Hq⟩ := H
  subst b0
  have H := Hq; clear Hq
  refine lv rfl rfl (v := (ptr a4 (a3 + (Int.toNat v) * 1))) (vi TyTA.el25 rfl rfl a7 b1) ?_
  obtain ⟨x, a9, H⟩ := H
  refine lv rfl rfl (vl TyTA.agg5 rfl a9) (lv rfl rfl (va rfl) (lv rfl rfl (va rfl) ?_))
  refine ln (qn (xr ?_))
  refine lv rfl rfl (vm rfl) (lv rfl rfl (vm rfl) (lv rfl rfl (v := (.int .u64 (IntKind.u64.wrap x))) (hv_convInt TyTA.u5 TyTA.u29 rfl) (lv rfl rfl (vm rfl) (lv rfl rfl (vr rfl rfl rfl) ?_))))
  obtain ⟨a6, H⟩ := H
  refine lv rfl rfl (v := (.int .u64 (IntKind.u64.wrap ((IntKind.u64.wrap x) * 2 ^ min (Int.toNat (IntKind.i64.wrap (8 * v))) 64)))) (hv_shift rfl rfl a6 rfl) (lv rfl rfl (v := (.int .u64 (ibor .u64 n (IntKind.u64.wrap ((IntKind.u64.wrap x) * 2 ^ min (Int.toNat (IntKind.i64.wrap (8 * v))) 64))))) (hv_bits rfl rfl rfl) (lv rfl rfl (va rfl) ?_))
  refine ln (bn (qn (xr ?_)))
  refine lv rfl rfl (vr rfl rfl rfl) (lv rfl rfl (vm rfl) ?_)
  refine ln (qn ?_)
  exact ⟨(ibor .u64 n (IntKind.u64.wrap ((IntKind.u64.wrap x) * 2 ^ min (Int.toNat (IntKind.i64.wrap (8 * v))) 64)), IntKind.i64.wrap (v + 1)), ⟨⟨H.1, rfl⟩, H.2⟩, (hc rfl (hc rfl (hc rfl (hc rfl hn))))⟩
 ·replace H := H.2 a5
  refine xe (qe (qe (bh (qn (xs (xr ?_))))))
  refine lv rfl rfl (vm rfl) (lv rfl rfl (va rfl) ?_)
  refine ln (qn (xt ?_))
  exact endQ_ret _ (res_one Tryd.results60 (rv_tmp rfl)) H
theorem f66_sh (i : Int) (a2 : Nat) (a1 : Nat) (h : Heap) (R : Value → Heap → Prop)
  (H : (∃ x : Option Addr, ∃ a3 a0 : Nat, hcell h a2 a1 = some (.slice x a3 a0) ∧ (0 ≤ (IntKind.i64.wrap (4 * i) : Int) ∧ IntKind.i64.wrap (4 * i) ≤ IntKind.i64.wrap ((IntKind.i64.wrap (4 * i)) + 4) ∧ IntKind.i64.wrap ((IntKind.i64.wrap (4 * i)) + 4) ≤ (a0 : Int) ∧ ∀ sl : Option Addr, sl = slA x (Int.toNat (IntKind.i64.wrap (4 * i))) 1 a0 → (∃ r : Int, HC Tryd.prog 60 #[(.slice sl (Int.toNat (IntKind.i64.wrap ((IntKind.i64.wrap (4 * i)) + 4)) - Int.toNat (IntKind.i64.wrap (4 * i))) (a0 - Int.toNat (IntKind.i64.wrap (4 * i))))] h (fun vv h' => vv = (.int .u64 r) ∧ h' = h) ∧ R (.int .u64 r) h)))) :
  HC Tryd.prog 66 #[(.int .i64 i), (ptr a2 a1)] h R := by
 refine hc_of (args := [(.int .i64 i), (ptr a2 a1)]) Tryd.func66 rfl Tryd.ntmps66 (Nat.le_of_ble_eq_true rfl) ?_
 refine xs (xr ?_)
 refine lv rfl rfl (va rfl) ?_
 refine ln (qn (xs (xr ?_)))
 obtain ⟨x, a3, a0, a8, H⟩ := H
 refine lv rfl rfl (vl TyTA.agg25 rfl a8) (lv rfl rfl (vm rfl) (lv rfl rfl (vr rfl rfl rfl) (lv rfl rfl (vm rfl) (lv rfl rfl (vr rfl rfl rfl) (lv rfl rfl (vr rfl rfl rfl) ?_)))))
 obtain ⟨a7, a5, a6, H⟩ := H
 obtain ⟨sl, hq5⟩ : ∃ q, q = slA x (Int.toNat (IntKind.i64.wrap (4 * i))) 1 a0 := ⟨_, rfl⟩
 replace H := H sl hq5
 refine lv rfl rfl (v := (.slice sl (Int.toNat (IntKind.i64.wrap ((IntKind.i64.wrap (4 * i)) + 4)) - Int.toNat (IntKind.i64.wrap (4 * i))) (a0 - Int.toNat (IntKind.i64.wrap (4 * i))))) (hv_slice (l := IntKind.i64.wrap (4 * i)) (r := IntKind.i64.wrap ((IntKind.i64.wrap (4 * i)) + 4)) TyTA.u25 TyTA.sz5 rfl (sl_some rfl) (sh_some rfl) a7 a5 a6 hq5) ?_
 obtain ⟨r, a4, H⟩ := H
 refine lv rfl rfl (hv_call TyTA.cb60 (vs := [(.slice sl (Int.toNat (IntKind.i64.wrap ((IntKind.i64.wrap (4 * i)) + 4)) - Int.toNat (IntKind.i64.wrap (4 * i))) (a0 - Int.toNat (IntKind.i64.wrap (4 * i))))]) rfl a4) (lv rfl rfl (va rfl) ?_)
 refine ln (qn (xt ?_))
 exact endQ_ret _ (res_one Tryd.results66 (rv_tmp rfl)) H
theorem f103_sh (n : Int) (h : Heap) (R : Value → Heap → Prop)
  (H : (∃ r : Int, HC Tryd.prog 104 #[(.int .u64 (IntKind.u64.wrap n))] h (fun vv h' => vv = (.int .i64 r) ∧ h' = h) ∧ R (.int .u8 (IntKind.u8.wrap r)) h)) :
  HC Tryd.prog 103 #[(.int .i64 n)] h R := by
 refine hc_of (args := [(.int .i64 n)]) Tryd.func103 rfl Tryd.ntmps103 (Nat.le_of_ble_eq_true rfl) ?_
 refine xs (xr ?_)
 refine lv rfl rfl (va rfl) ?_
 refine ln (qn (xs (xr ?_)))
 refine lv rfl rfl (vm rfl) (lv rfl rfl (v := (.int .u64 (IntKind.u64.wrap n))) (hv_convInt TyTA.u3 TyTA.u122 rfl) ?_)
 obtain ⟨r, a0, H⟩ := H
 refine lv rfl rfl (hv_call TyTA.cb104 (vs := [(.int .u64 (IntKind.u64.wrap n))]) rfl a0) (lv rfl rfl (v := (.int .u8 (IntKind.u8.wrap r))) (hv_convInt TyTA.u3 TyTA.u5 rfl) (lv rfl rfl (va rfl) ?_))
 refine ln (qn (xt ?_))
 exact endQ_ret _ (res_one Tryd.results103 (rv_tmp rfl)) H
theorem f104_sh (x : Int) (h : Heap) (R : Value → Heap → Prop)
  (H : (∃ r : Int, HC Tryd.prog 114 #[(.int .u64 x)] h (fun vv h' => vv = (.int .i64 r) ∧ h' = h) ∧ R (.int .i64 r) h)) :
  HC Tryd.prog 104 #[(.int .u64 x)] h R := by
 refine hc_of (args := [(.int .u64 x)]) Tryd.func104 rfl Tryd.ntmps104 (Nat.le_of_ble_eq_true rfl) ?_
 refine xs (xr ?_)
 refine lv rfl rfl (va rfl) ?_
 refine ln (qn (xs ?_))
 refine xc (b := false) rfl (fun hb => by cases hb) (fun _ => ?_)
 refine xi (qn (xs (xr ?_)))
 refine lv rfl rfl (vm rfl) ?_
 obtain ⟨r, a0, H⟩ := H
 refine lv rfl rfl (hv_call TyTA.cb114 (vs := [(.int .u64 x)]) rfl a0) (lv rfl rfl (va rfl) ?_)
 refine ln (qn (xt ?_))
 exact endQ_ret _ (res_one Tryd.results104 (rv_tmp rfl)) H
theorem f114_sh (x : Int) (h : Heap) (R : Value → Heap → Prop)
  (H : (((x == 0) = true → R (.int .i64 64) h) ∧ ((x == 0) = false → ((0 : Int) ≤ Int.fdiv (IntKind.u64.wrap ((iband .u64 x (IntKind.u64.wrap (0 - x))) * 285870213051353865)) (2 ^ min (Int.toNat 58) 64) ∧ Int.fdiv (IntKind.u64.wrap ((iband .u64 x (IntKind.u64.wrap (0 - x))) * 285870213051353865)) (2 ^ min (Int.toNat 58) 64) < 64 ∧ (∃ a0 : Int, hcell h 2 (0 + (Int.toNat (Int.fdiv (IntKind.u64.wrap ((iband .u64 x (IntKind.u64.wrap (0 - x))) * 285870213051353865)) (2 ^ min (Int.toNat 58) 64))) * 1) = some (.int .u8 a0) ∧ R (.int .i64 (IntKind.i64.wrap a0)) h))))) :
  HC Tryd.prog 114 #[(.int .u64 x)] h R := by
 refine hc_of (args := [(.int .u64 x)]) Tryd.func114 rfl Tryd.ntmps114 (Nat.le_of_ble_eq_true rfl) ?_
 refine xs (xr ?_)
 refine lv rfl rfl (va rfl) ?_
 refine ln (qn (xs (xs (xr ?_))))
 refine lv rfl rfl (vm rfl) (lv rfl rfl (vr rfl rfl rfl) ?_)
 refine ln (qn ?_)
 refine xc (b := x == 0) rfl (fun a1 => ?_) (fun a1 => ?_)
 ·replace H := H.1 a1
  refine xs (xr ?_)
  refine lv rfl rfl (va rfl) ?_
  refine ln (qn (xt (qr ?_)))
  exact endQ_ret _ (res_one Tryd.results114 (rv_tmp rfl)) H
 ·replace H := H.2 a1
  refine xi (qn (xs (xr ?_)))
  refine lv rfl rfl (vm rfl) (lv rfl rfl (vm rfl) (lv rfl rfl (v := (.int .u64 (IntKind.u64.wrap (0 - x)))) (hv_neg rfl) (lv rfl rfl (v := (.int .u64 (iband .u64 x (IntKind.u64.wrap (0 - x))))) (hv_bits rfl rfl rfl) (lv rfl rfl (vr rfl rfl rfl) (lv rfl rfl (v := (.int .u64 (Int.fdiv (IntKind.u64.wrap ((iband .u64 x (IntKind.u64.wrap (0 - x))) * 285870213051353865)) (2 ^ min (Int.toNat 58) 64)))) (hv_shift rfl rfl (by decide) rfl) ?_)))))
  obtain ⟨a3, a4, H⟩ := H
  refine lv rfl rfl (v := (ptr 2 (0 + (Int.toNat (Int.fdiv (IntKind.u64.wrap ((iband .u64 x (IntKind.u64.wrap (0 - x))) * 285870213051353865)) (2 ^ min (Int.toNat 58) 64))) * 1))) (hv_indexA TyTA.ea152 (b := 2) (o := 0) rfl rfl a3 a4) ?_
  obtain ⟨a0, a2, H⟩ := H
  refine lv rfl rfl (vl TyTA.agg5 rfl a2) (lv rfl rfl (v := (.int .i64 (IntKind.i64.wrap a0))) (hv_convInt TyTA.u5 TyTA.u3 rfl) (lv rfl rfl (va rfl) ?_))
  refine ln (qn (xt ?_))
  exact endQ_ret _ (res_one Tryd.results114 (rv_tmp rfl)) H
theorem f106_sh (x : Int) (n : Int) (h : Heap) (R : Value → Heap → Prop)
  (H : (∃ (I1 : Int → Int → Prop) (a3 : Int → Int → Nat), I1 x 0 ∧ (∀ (a0 : Int) (v : Int), I1 a0 v → (((decide (v < n)) = true → (∀ a2 : Int, a2 = (bif (iband .u32 a0 1) == 1 then ibxor .u32 (Int.fdiv a0 (2 ^ min (Int.toNat 1) 32)) 2197175160 else Int.fdiv a0 (2 ^ min (Int.toNat 1) 32)) → (I1 a2 (IntKind.i64.wrap (v + 1)) ∧ a3 a2 (IntKind.i64.wrap (v + 1)) < a3 a0 v))) ∧ ((decide (v < n)) = false → R (.int .u32 a0) h))))) :
  HC Tryd.prog 106 #[(.int .u32 x), (.int .i64 n)] h R := by
 refine hc_of (args := [(.int .u32 x), (.int .i64 n)]) Tryd.func106 rfl Tryd.ntmps106 (Nat.le_of_ble_eq_true rfl) ?_
 refine xs (xr ?_)
 refine lv rfl rfl (va rfl) ?_
 refine ln (qn (xs (xs (xr ?_))))
 refine lv rfl rfl (vm rfl) (lv rfl rfl (vm rfl) ?_)
 refine ln (qn (xb ?_))
 obtain ⟨I1, a3, a6, a5⟩ := H
 refine xl (σ := Int × Int) (fun s => [(0, (.int .u32 s.1)), (6, (.int .i64 n)), (7, (.int .i64 s.2))]) (fun s h' => I1 s.1 s.2 ∧ h = h') (fun s _ => a3 s.1 s.2) (x, 0) ⟨a6, rfl⟩ (hc rfl (hc rfl (hc rfl hn))) ?_
 rintro ⟨a0, v⟩ ρ _ ⟨a7, rfl⟩
 have H := a5 a0 v a7
 refine xs (xr ?_)
 refine lv rfl rfl (vr rfl rfl rfl) ?_
 refine ln (qn (xs ?_))
 refine xc (b := decide (v < n)) rfl (fun a4 => ?_) (fun a4 => ?_)
 ·replace H := H.1 a4
  refine xi (qn ?_)
  obtain ⟨a2, hq9⟩ : ∃ q : Int, q = (bif (iband .u32 a0 1) == 1 then ibxor .u32 (Int.fdiv a0 (2 ^ min (Int.toNat 1) 32)) 2197175160 else Int.fdiv a0 (2 ^ min (Int.toNat 1) 32)) := ⟨_, rfl⟩
  replace H := H a2 hq9
  refine xk (fun ρ h' => h = h' ∧ Has ρ [(0, (.int .u32 a2)), (6, (.int .i64 n)), (7, (.int .i64 v))]) ?_ ?_
  ·refine xb (xs (xr ?_))
   refine lv rfl rfl (vm rfl) (lv rfl rfl (v := (.int .u32 (iband .u32 a0 1))) (hv_bits rfl rfl rfl) (lv rfl rfl (va rfl) ?_))
   refine ln (qn (xs (xr ?_)))
   refine lv rfl rfl (vm rfl) (lv rfl rfl (v := (.int .u32 (Int.fdiv a0 (2 ^ min (Int.toNat 1) 32)))) (hv_shift rfl rfl (by decide) rfl) (lv rfl rfl (va rfl) ?_))
   refine ln (qn (xs (xr ?_)))
   refine lv rfl rfl (vm rfl) (lv rfl rfl (vr rfl rfl rfl) ?_)
   refine ln (qn ?_)
   refine xc (b := (iband .u32 a0 1) == 1) rfl (fun a1 => ?_) (fun a1 => ?_)
   ·refine xr ?_
    refine lv rfl rfl (vm rfl) (lv rfl rfl (v := (.int .u32 (ibxor .u32 (Int.fdiv a0 (2 ^ min (Int.toNat 1) 32)) 2197175160))) (hv_bits rfl rfl rfl) (lv rfl rfl (va rfl) ?_))
    refine ln (bn (qn ?_))
    exact ⟨rfl, (hc (show ((.int .u32 (ibxor .u32 (Int.fdiv a0 (2 ^ min (Int.toNat 1) 32)) 2197175160)) : Value) = (.int .u32 a2) from (by first | rfl | ((try rw [a1]); (try rw [hq9]); (try rw [a1]); all_goals first | rfl | (simp only [Bool.true_or, Bool.or_true, Bool.false_or, Bool.or_false, Bool.true_and, Bool.and_true, Bool.false_and, Bool.and_false, Bool.not_true, Bool.not_false, Bool.cond_true, Bool.cond_false]; done)) | simp [a1, hq9, a1])) (hc rfl (hc rfl hn)))⟩
   ·refine xi (bn (qn ?_))
    exact ⟨rfl, (hc (show ((.int .u32 (Int.fdiv a0 (2 ^ min (Int.toNat 1) 32))) : Value) = (.int .u32 a2) from (by first | rfl | ((try rw [a1]); (try rw [hq9]); (try rw [a1]); all_goals first | rfl | (simp only [Bool.true_or, Bool.or_true, Bool.false_or, Bool.or_false, Bool.true_and, Bool.and_true, Bool.false_and, Bool.and_false, Bool.not_true, Bool.not_false, Bool.cond_true, Bool.cond_false]; done)) | simp [a1, hq9, a1])) (hc rfl (hc rfl hn)))⟩
  ·rintro ρ _ ⟨rfl, hH⟩
   refine xh _ hH ?_
   refine xr ?_
   refine lv rfl rfl (vr rfl rfl rfl) (lv rfl rfl (vm rfl) ?_)
   refine ln (qn ?_)
   exact ⟨(a2, IntKind.i64.wrap (v + 1)), ⟨⟨H.1, rfl⟩, H.2⟩, (hc rfl (hc rfl (hc rfl hn)))⟩
 ·replace H := H.2 a4
  refine xe (qe (qe (bh (qn (xs (xr ?_))))))
  refine lv rfl rfl (vm rfl) (lv rfl rfl (va rfl) ?_)
  refine ln (qn (xt ?_))
  exact endQ_ret _ (res_one Tryd.results106 (rv_tmp rfl)) H
theorem f87_sh (a2 : Int) (b : Option Addr) (a0 : Nat) (a4 : Nat) (h : Heap) (R : Value → Heap → Prop)
  (H : (∃ (I1 : Int → Int → Prop) (a3 : Int → Int → Nat), I1 (ibxor .u32 4294967295 a2) 0 ∧ (∀ (x : Int) (v : Int), I1 x v → (((decide (v < (a0 : Int))) = true → (∃ a6 a5 : Nat, b = some ⟨a6, a5, none⟩ ∧ (0 : Int) ≤ v ∧ v < (a0 : Int) ∧ (∃ a1 : Int, hcell h a6 (a5 + (Int.toNat v) * 1) = some (.int .u8 a1) ∧ (∃ r : Int, HC Tryd.prog 106 #[(.int .u32 (ibxor .u32 x (IntKind.u32.wrap a1))), (.int .i64 8)] h (fun vv h' => vv = (.int .u32 r) ∧ h' = h) ∧ (I1 r (IntKind.i64.wrap (v + 1)) ∧ a3 r (IntKind.i64.wrap (v + 1)) < a3 x v))))) ∧ ((decide (v < (a0 : Int))) = false → R (.int .u32 (ibxor .u32 4294967295 x)) h))))) :
  HC Tryd.prog 87 #[(.int .u32 a2), (.slice b a0 a4)] h R := by
 refine hc_of (args := [(.int .u32 a2), (.slice b a0 a4)]) Tryd.func87 rfl Tryd.ntmps87 (Nat.le_of_ble_eq_true rfl) ?_
 refine xs (xr ?_)
 refine lv rfl rfl (va rfl) ?_
 refine ln (qn (xs (xr ?_)))
 refine lv rfl rfl (vm rfl) (lv rfl rfl (v := (.int .u32 (ibxor .u32 4294967295 a2))) (hv_unXor rfl rfl) (lv rfl rfl (va rfl) ?_))
 refine ln (qn (xs (xs (xr ?_))))
 refine lv rfl rfl (vm rfl) (lv rfl rfl (v := (.int .i64 (a0 : Int))) (hv_len (n := a0) TyTA.u25 rfl) (lv rfl rfl (vm rfl) ?_))
 refine ln (qn (xb ?_))
 obtain ⟨I1, a3, b0, b4⟩ := H
 refine xl (σ := Int × Int) (fun s => [(5, (.int .u32 s.1)), (10, (.slice b a0 a4)), (11, (.int .i64 (a0 : Int))), (12, (.int .i64 s.2))]) (fun s h' => I1 s.1 s.2 ∧ h = h') (fun s _ => a3 s.1 s.2) (ibxor .u32 4294967295 a2, 0) ⟨b0, rfl⟩ (hc rfl (hc rfl (hc rfl (hc rfl hn)))) ?_
 rintro ⟨x, v⟩ ρ _ ⟨b5, rfl⟩
 have H := b4 x v b5
 refine xs (xr ?_)
 refine lv rfl rfl (vr rfl rfl rfl) ?_
 refine ln (qn (xs ?_))
 refine xc (b := decide (v < (a0 : Int))) rfl (fun a7 => ?_) (fun a7 => ?_)
 ·replace H := H.1 a7
  refine xi (qn (xs (xb (xs (xr ?_)))))
  obtain ⟨a6, a5, b2, a9, b3, Hq⟩ := H
  subst b2
  have H := Hq; clear Hq
  refine lv rfl rfl (v := (ptr a6 (a5 + (Int.toNat v) * 1))) (vi TyTA.el25 rfl rfl a9 b3) ?_
  obtain ⟨a1, b1, H⟩ := H
  refine lv rfl rfl (vl TyTA.agg5 rfl b1) (lv rfl rfl (va rfl) ?_)
  refine ln (qn (xs (xr ?_)))
  refine lv rfl rfl (vm rfl) (lv rfl rfl (vm rfl) (lv rfl rfl (v := (.int .u32 (IntKind.u32.wrap a1))) (hv_convInt TyTA.u5 TyTA.u86 rfl) (lv rfl rfl (v := (.int .u32 (ibxor .u32 x (IntKind.u32.wrap a1)))) (hv_bits rfl rfl rfl) (lv rfl rfl (va rfl) ?_))))
  refine ln (qn (xr ?_))
  refine lv rfl rfl (vm rfl) ?_
  obtain ⟨r, a8, H⟩ := H
  refine lv rfl rfl (hv_call TyTA.cb106 (vs := [(.int .u32 (ibxor .u32 x (IntKind.u32.wrap a1))), (.int .i64 8)]) rfl a8) (lv rfl rfl (va rfl) ?_)
  refine ln (bn (qn (xr ?_)))
  refine lv rfl rfl (vr rfl rfl rfl) (lv rfl rfl (vm rfl) ?_)
  refine ln (qn ?_)
  exact ⟨(r, IntKind.i64.wrap (v + 1)), ⟨⟨H.1, rfl⟩, H.2⟩, (hc rfl (hc rfl (hc rfl (hc rfl hn))))⟩
 ·replace H := H.2 a7
  refine xe (qe (qe (bh (qn (xs (xr ?_))))))
  refine lv rfl rfl (vm rfl) (lv rfl rfl (v := (.int .u32 (ibxor .u32 4294967295 x))) (hv_unXor rfl rfl) (lv rfl rfl (va rfl) ?_))
  refine ln (qn (xt ?_))
  exact endQ_ret _ (res_one Tryd.results87 (rv_tmp rfl)) H
theorem f68_sh (b : Option Addr) (a0 : Nat) (a1 : Nat) (h : Heap) (R : Value → Heap → Prop)
  (H : (∃ r : Int, HC Tryd.prog 87 #[(.int .u32 0), (.slice b a0 a1)] h (fun vv h' => vv = (.int .u32 r) ∧ h' = h) ∧ R (.int .u32 r) h)) :
  HC Tryd.prog 68 #[(.slice b a0 a1)] h R := by
 refine hc_of (args := [(.slice b a0 a1)]) Tryd.func68 rfl Tryd.ntmps68 (Nat.le_of_ble_eq_true rfl) ?_
 refine xs (xr ?_)
 refine lv rfl rfl (va rfl) ?_
 refine ln (qn (xs (xr ?_)))
 refine lv rfl rfl (vm rfl) ?_
 obtain ⟨r, a2, H⟩ := H
 refine lv rfl rfl (hv_call TyTA.cb87 (vs := [(.int .u32 0), (.slice b a0 a1)]) rfl a2) (lv rfl rfl (va rfl) ?_)
 refine ln (qn (xt ?_))
 exact endQ_ret _ (res_one Tryd.results68 (rv_tmp rfl)) H
theorem f72_sh (a4 : Int) (b : Option Addr) (a1 : Nat) (a5 : Nat) (h : Heap) (R : Value → Heap → Prop)
  (H : (∃ (I1 : Int → Int → Prop) (b1 : Int → Int → Nat), I1 (ibxor .u32 4294967295 a4) 0 ∧ (∀ (sv : Int) (i : Int), I1 sv i → (((decide (i < (a1 : Int))) = true → (∃ a7 a6 : Nat, b = some ⟨a7, a6, none⟩ ∧ (0 : Int) ≤ i ∧ i < (a1 : Int) ∧ (∃ x : Int, hcell h a7 (a6 + (Int.toNat i) * 1) = some (.int .u8 x) ∧ (∃ (a9 : Int → Int → Prop) (a8 : Int → Int → Nat), a9 (ibxor .u32 sv (IntKind.u32.wrap x)) 0 ∧ (∀ (a0 : Int) (k : Int), a9 a0 k → (((decide (k < 8)) = true → (∀ a2 : Int, a2 = (bif (Int.tmod a0 2) == 1 then ibxor .u32 (IntKind.u32.wrap (Int.tdiv a0 2)) 2197175160 else IntKind.u32.wrap (Int.tdiv a0 2)) → (a9 a2 (IntKind.i64.wrap (k + 1)) ∧ a8 a2 (IntKind.i64.wrap (k + 1)) < a8 a0 k))) ∧ ((decide (k < 8)) = false → (I1 a0 (IntKind.i64.wrap (i + 1)) ∧ b1 a0 (IntKind.i64.wrap (i + 1)) < b1 sv i)))))))) ∧ ((decide (i < (a1 : Int))) = false → R (.int .u32 (ibxor .u32 4294967295 sv)) h))))) :
  HC Tryd.prog 72 #[(.int .u32 a4), (.slice b a1 a5)] h R := by
 refine hc_of (args := [(.int .u32 a4), (.slice b a1 a5)]) Tryd.func72 rfl Tryd.ntmps72 (Nat.le_of_ble_eq_true rfl) ?_
 refine xs (xr ?_)
 refine lv rfl rfl (va rfl) ?_
 refine ln (qn (xs (xr ?_)))
 refine lv rfl rfl (vm rfl) (lv rfl rfl (v := (.int .u32 (ibxor .u32 4294967295 a4))) (hv_unXor rfl rfl) (lv rfl rfl (va rfl) ?_))
 refine ln (qn (xs (xs (xr ?_))))
 refine lv rfl rfl (va rfl) ?_
 refine ln (qn (xb ?_))
 obtain ⟨I1, b1, b7, c1⟩ := H
 refine xl (σ := Int × Int) (fun s => [(1, (.slice b a1 a5)), (5, (.int .u32 s.1)), (6, (.int .i64 s.2))]) (fun s h' => I1 s.1 s.2 ∧ h = h') (fun s _ => b1 s.1 s.2) (ibxor .u32 4294967295 a4, 0) ⟨b7, rfl⟩ (hc rfl (hc rfl (hc rfl hn))) ?_
 rintro ⟨sv, i⟩ ρ _ ⟨c2, rfl⟩
 have H := c1 sv i c2
 refine xs (xs (xr ?_))
 refine lv rfl rfl (vm rfl) (lv rfl rfl (vm rfl) (lv rfl rfl (v := (.int .i64 (a1 : Int))) (hv_len (n := a1) TyTA.u25 rfl) (lv rfl rfl (vr rfl rfl rfl) ?_)))
 refine ln (qn ?_)
 refine xc (b := decide (i < (a1 : Int))) rfl (fun b2 => ?_) (fun b2 => ?_)
 ·replace H := H.1 b2
  refine xi (qn (xs (xb (xs (xr ?_)))))
  refine lv rfl rfl (vm rfl) (lv rfl rfl (vm rfl) (lv rfl rfl (vm rfl) ?_))
  obtain ⟨a7, a6, b9, b6, c0, Hq⟩ := H
  subst b9
  have H := Hq; clear Hq
  refine lv rfl rfl (v := (ptr a7 (a6 + (Int.toNat i) * 1))) (vi TyTA.el25 rfl rfl b6 c0) ?_
  obtain ⟨x, b8, H⟩ := H
  refine lv rfl rfl (vl TyTA.agg5 rfl b8) (lv rfl rfl (v := (.int .u32 (IntKind.u32.wrap x))) (hv_convInt TyTA.u5 TyTA.u86 rfl) (lv rfl rfl (v := (.int .u32 (ibxor .u32 sv (IntKind.u32.wrap x)))) (hv_bits rfl rfl rfl) (lv rfl rfl (va rfl) ?_)))
  refine ln (qn (xs (xr ?_)))
  refine lv rfl rfl (va rfl) ?_
  refine ln (qn (xb ?_))
  obtain ⟨a9, a8, b4, b3⟩ := H
  refine xl (σ := Int × Int) (fun s => [(1, (.slice (some ⟨a7, a6, none⟩) a1 a5)), (5, (.int .u32 s.1)), (6, (.int .i64 i)), (7, (.int .i64 s.2))]) (fun s h' => a9 s.1 s.2 ∧ h = h') (fun s _ => a8 s.1 s.2) (ibxor .u32 sv (IntKind.u32.wrap x), 0) ⟨b4, rfl⟩ (hc rfl (hc rfl (hc rfl (hc rfl hn)))) ?_
  rintro ⟨a0, k⟩ ρ _ ⟨b5, rfl⟩
  have H := b3 a0 k b5
  refine xs (xs (xr ?_))
  refine lv rfl rfl (vm rfl) (lv rfl rfl (vr rfl rfl rfl) ?_)
  refine ln (qn ?_)
  refine xc (b := decide (k < 8)) rfl (fun b0 => ?_) (fun b0 => ?_)
  ·replace H := H.1 b0
   refine xi (qn ?_)
   obtain ⟨a2, hq18⟩ : ∃ q : Int, q = (bif (Int.tmod a0 2) == 1 then ibxor .u32 (IntKind.u32.wrap (Int.tdiv a0 2)) 2197175160 else IntKind.u32.wrap (Int.tdiv a0 2)) := ⟨_, rfl⟩
   replace H := H a2 hq18
   refine xk (fun ρ h' => h = h' ∧ Has ρ [(1, (.slice (some ⟨a7, a6, none⟩) a1 a5)), (5, (.int .u32 a2)), (6, (.int .i64 i)), (7, (.int .i64 k))]) ?_ ?_
   ·refine xb (xs (xr ?_))
    refine lv rfl rfl (vm rfl) (lv rfl rfl (v := (.int .u32 (Int.tmod a0 2))) (hv_rem rfl rfl (by decide)) (lv rfl rfl (vr rfl rfl rfl) ?_))
    refine ln (qn ?_)
    refine xc (b := (Int.tmod a0 2) == 1) rfl (fun a3 => ?_) (fun a3 => ?_)
    ·refine xr ?_
     refine lv rfl rfl (vm rfl) (lv rfl rfl (v := (.int .u32 (IntKind.u32.wrap (Int.tdiv a0 2)))) (hv_quo rfl rfl (by decide)) (lv rfl rfl (v := (.int .u32 (ibxor .u32 (IntKind.u32.wrap (Int.tdiv a0 2)) 2197175160))) (hv_bits rfl rfl rfl) (lv rfl rfl (va rfl) ?_)))
     refine ln (bn (qn ?_))
     exact ⟨rfl, (hc rfl (hc (show ((.int .u32 (ibxor .u32 (IntKind.u32.wrap (Int.tdiv a0 2)) 2197175160)) : Value) = (.int .u32 a2) from (by first | rfl | ((try rw [a3]); (try rw [hq18]); (try rw [a3]); all_goals first | rfl | (simp only [Bool.true_or, Bool.or_true, Bool.false_or, Bool.or_false, Bool.true_and, Bool.and_true, Bool.false_and, Bool.and_false, Bool.not_true, Bool.not_false, Bool.cond_true, Bool.cond_false]; done)) | simp [a3, hq18, a3])) (hc rfl (hc rfl hn))))⟩
    ·refine xr ?_
     refine lv rfl rfl (vm rfl) (lv rfl rfl (v := (.int .u32 (IntKind.u32.wrap (Int.tdiv a0 2)))) (hv_quo rfl rfl (by decide)) (lv rfl rfl (va rfl) ?_))
     refine ln (bn (qn ?_))
     exact ⟨rfl, (hc rfl (hc (show ((.int .u32 (IntKind.u32.wrap (Int.tdiv a0 2))) : Value) = (.int .u32 a2) from (by first | rfl | ((try rw [a3]); (try rw [hq18]); (try rw [a3]); all_goals first | rfl | (simp only [Bool.true_or, Bool.or_true, Bool.false_or, Bool.or_false, Bool.true_and, Bool.and_true, Bool.false_and, Bool.and_false, Bool.not_true, Bool.not_false, Bool.cond_true, Bool.cond_false]; done)) | simp [a3, hq18, a3])) (hc rfl (hc rfl hn))))⟩
   ·rintro ρ _ ⟨rfl, hH⟩
    refine xh _ hH ?_
    refine xr ?_
    refine lv rfl rfl (vm rfl) (lv rfl rfl (vr rfl rfl rfl) (lv rfl rfl (va rfl) ?_))
    refine ln (qn ?_)
    exact ⟨(a2, IntKind.i64.wrap (k + 1)), ⟨⟨H.1, rfl⟩, H.2⟩, (hc rfl (hc rfl (hc rfl (hc rfl hn))))⟩
  ·replace H := H.2 b0
   refine xe (qe (qe (bh (bn (qn (xr ?_))))))
   refine lv rfl rfl (vm rfl) (lv rfl rfl (vr rfl rfl rfl) (lv rfl rfl (va rfl) ?_))
   refine ln (qn ?_)
   exact ⟨(a0, IntKind.i64.wrap (i + 1)), ⟨⟨H.1, rfl⟩, H.2⟩, (hc rfl (hc rfl (hc rfl hn)))⟩
 ·replace H := H.2 b2
  refine xe (qe (qe (bh (qn (xs (xr ?_))))))
  refine lv rfl rfl (vm rfl) (lv rfl rfl (v := (.int .u32 (ibxor .u32 4294967295 sv))) (hv_unXor rfl rfl) (lv rfl rfl (va rfl) ?_))
  refine ln (qn (xt ?_))
  exact endQ_ret _ (res_one Tryd.results72 (rv_tmp rfl)) H
theorem f44_sh (b : Option Addr) (a0 : Nat) (a1 : Nat) (h : Heap) (R : Value → Heap → Prop)
  (H : (∃ r : Int, HC Tryd.prog 72 #[(.int .u32 0), (.slice b a0 a1)] h (fun vv h' => vv = (.int .u32 r) ∧ h' = h) ∧ R (.int .u32 r) h)) :
  HC Tryd.prog 44 #[(.slice b a0 a1)] h R := by
 refine hc_of (args := [(.slice b a0 a1)]) Tryd.func44 rfl Tryd.ntmps44 (Nat.le_of_ble_eq_true rfl) ?_
 refine xs (xr ?_)
 refine lv rfl rfl (va rfl) ?_
 refine ln (qn (xs (xr ?_)))
 refine lv rfl rfl (vm rfl) ?_
 obtain ⟨r, a2, H⟩ := H
 refine lv rfl rfl (hv_call TyTA.cb72 (vs := [(.int .u32 0), (.slice b a0 a1)]) rfl a2) (lv rfl rfl (va rfl) ?_)
 refine ln (qn (xt ?_))
 exact endQ_ret _ (res_one Tryd.results44 (rv_tmp rfl)) H
end Go.Proofs.YthjehlocmikchaaDoor
namespace Go.Proofs.YthjehlocmikchaaDoor
namespace Sc
open Go
structure Geo where
 page : Int
 pages : Int
 regs : Int
 al : Int
def p2 : List Int := [1, 2, 4, 8, 16, 32, 64, 128, 256, 512, 1024, 2048, 4096]
def pw (n lo hi : Int) : Prop := n ∈ p2 ∧ lo ≤ n ∧ n ≤ hi
instance (n lo hi : Int) : Decidable (pw n lo hi) := by unfold pw; infer_instance
def Gok (g : Geo) : Prop := pw g.page 16 4096 ∧ (1 ≤ g.pages ∧ g.pages ≤ 64) ∧ (2 ≤ g.regs ∧ g.regs ≤ 256) ∧ pw g.al 1 g.page ∧ 128 ≤ g.page * g.pages ∧ g.page * g.pages * g.regs ≤ 1048576 ∧ g.al + 48 ≤ g.page * g.pages
instance (g : Geo) : Decidable (Gok g) := by unfold Gok; infer_instance
def Geo.sz (g : Geo) : Int := g.page * g.pages
def Geo.dev (g : Geo) : Int := g.page * g.pages * g.regs
theorem pw_lt {n lo hi : Int} (h : pw n lo hi) : 1 ≤ n ∧ n ≤ 4096 := by
 have := h.1
 simp only [p2, List.mem_cons, List.not_mem_nil, or_false] at this
 omega
theorem land_pred : (List.range 4097).all (fun n => (n == 0) || (((n &&& (n - 1)) == 0) == decide ((n : Int) ∈ p2))) = true := by kernel_rfl
theorem bv64 {n : Int} (h0 : 0 ≤ n) (h1 : n < 18446744073709551616) : (BitVec.ofInt 64 n).toNat = n.toNat := by
 rw [BitVec.toNat_ofInt]
 have : n % ((2 : Nat) ^ 64 : Nat) = n := Int.emod_eq_of_lt h0 (by omega)
 rw [this]
theorem band64 {a b : Int} (ha : 0 ≤ a) (hb : 0 ≤ b) (ha1 : a < 9223372036854775808) (hb1 : b < 9223372036854775808) : iband .i64 a b = ((a.toNat &&& b.toNat : Nat) : Int) := by
 unfold iband
 show IntKind.i64.wrap ((BitVec.ofInt 64 a &&& BitVec.ofInt 64 b).toNat : Int) = _
 rw [BitVec.toNat_and, bv64 ha (by omega), bv64 hb (by omega)]
 have : a.toNat &&& b.toNat ≤ a.toNat := Nat.and_le_left
 rw [w64 (by omega) (by omega)]
theorem power_bits {n : Int} (h0 : 1 ≤ n) (h1 : n ≤ 4096) : (iband .i64 n (IntKind.i64.wrap (n - 1)) == 0) = decide (n ∈ p2) := by
 rw [w64 (by omega) (by omega), band64 (by omega) (by omega) (by omega) (by omega)]
 have h := List.all_eq_true.1 land_pred n.toNat (List.mem_range.2 (by omega))
 have e : (n.toNat : Int) = n := by omega
 have e2 : (n - 1).toNat = n.toNat - 1 := by omega
 rw [e2]
 rw [e] at h
 have h3 : (n.toNat == 0) = false := by simp; omega
 rw [h3, Bool.false_or] at h
 have h4 := eq_of_beq h
 rw [← h4]
 rw [Bool.eq_iff_iff]
 simp only [beq_iff_eq]
 omega
end Sc
end Go.Proofs.YthjehlocmikchaaDoor
namespace Go.Proofs.YthjehlocmikchaaDoor
namespace Sc
open Go
abbrev Geo.v (g : Geo) : Value := .agg #[.int .i64 g.page, .int .i64 g.pages, .int .i64 g.regs, .int .i64 g.al]
theorem power_m {n lo hi : Int} (hl : 1 ≤ lo) (hh : hi ≤ 4096) (h : Heap) : HC Tryd.prog 81 #[.int .i64 n, .int .i64 lo, .int .i64 hi] h fun v h' => v = .bool (decide (pw n lo hi)) ∧ h' = h := by
 refine f81_sh _ _ _ _ _ ⟨?_, rfl⟩
 congr 1
 by_cases h1 : n ≥ lo
 ·by_cases h2 : n ≤ hi
  ·rw [power_bits (by omega) (by omega), Bool.eq_iff_iff]
   simp [pw, h1, h2]
  ·rw [Bool.eq_iff_iff]; simp [pw, h2]
 ·have e1 : decide (n ≥ lo) = false := decide_eq_false h1
  rw [e1, Bool.false_and]; symm
  exact decide_eq_false fun q => h1 q.2.1
theorem p2_next {p : Int} (h : p ∈ p2) : (p * 2 = 8192 ∨ p * 2 ∈ p2) ∧ 1 ≤ p ∧ p ≤ 4096 ∧ ∀ q ∈ p2, p < q → p * 2 ≤ q := by
 simp only [p2, List.mem_cons, List.not_mem_nil, or_false] at h ⊢
 refine ⟨by omega, by omega, by omega, fun q hq hpq => by omega⟩
theorem power_r {n lo hi : Int} (hl : lo ∈ p2) (hh : hi ≤ 4096) (h : Heap) : HC Tryd.prog 41 #[.int .i64 n, .int .i64 lo, .int .i64 hi] h fun v h' => v = .bool (decide (pw n lo hi)) ∧ h' = h := by
 refine f41_sh _ _ _ _ _ ⟨fun p => (p = 8192 ∨ p ∈ p2) ∧ lo ≤ p ∧ ∀ q ∈ p2, lo ≤ q → q < p → n ≠ q, fun p => (8192 - p).toNat, ⟨.inr hl, Int.le_refl _, fun q _ h1 h2 => by omega⟩, ?_⟩
 rintro p ⟨hp, hlp, hall⟩
 refine ⟨fun g => ?_, fun g => ⟨?_, rfl⟩⟩
 ·have hle := of_decide_eq_true g
  have hp2 : p ∈ p2 := hp.resolve_left (by omega)
  obtain ⟨h1, h2, h3, h4⟩ := p2_next hp2
  refine ⟨fun e => ⟨?_, rfl⟩, fun e => ?_⟩
  ·have := eq_of_beq e; subst this
   congr 1; symm; exact decide_eq_true ⟨hp2, hlp, hle⟩
  ·have hne : n ≠ p := by simpa using e
   rw [w64 (by omega) (by omega)]
   refine ⟨⟨h1, by omega, fun q hq hlq hqp => ?_⟩, by show (8192 - p * 2).toNat < (8192 - p).toNat; omega⟩
   rcases Int.lt_trichotomy q p with c | c | c
   ·exact hall q hq hlq c
   ·subst c; exact hne
   ·have := h4 q hq c; omega
 ·have hgt := of_decide_eq_false g
  congr 1; symm
  refine decide_eq_false fun ⟨m1, m2, m3⟩ => hall n m1 m2 (by omega) rfl
theorem not_ok {g : Geo} (h : ¬ Gok g) : (if Gok g then (0 : Int) else 20) = 20 := if_neg h
theorem check_m (g : Geo) (h : Heap) : HC Tryd.prog 59 #[g.v] h fun v h' => v = .int .i64 (if Gok g then 0 else 20) ∧ Ext h h' := by
 have key : ∀ {a b : Bool}, (b = true ↔ ¬ (pw g.page 16 4096 ∧ (1 ≤ g.pages ∧ g.pages ≤ 64) ∧ (2 ≤ g.regs ∧ g.regs ≤ 256))) → a = b → (a = true ↔ ¬ (pw g.page 16 4096 ∧ (1 ≤ g.pages ∧ g.pages ≤ 64) ∧ (2 ≤ g.regs ∧ g.regs ≤ 256))) := fun h1 h2 => h2 ▸ h1
 let b0 : Bool := !decide (pw g.page 16 4096 ∧ (1 ≤ g.pages ∧ g.pages ≤ 64) ∧ (2 ≤ g.regs ∧ g.regs ≤ 256))
 refine f59_sh _ _ _ _ _ _ ⟨b0, fun _ h1 _ _ x1 => ⟨_, power_m (by decide) (by decide) h1, fun e => ?_, fun e => ⟨fun e2 => ?_, fun e2 => ⟨fun e3 => ?_, fun e3 => ?_⟩⟩⟩, fun e h1 x1 => ⟨?_, x1⟩, fun e _ h1 _ _ x1 => ?_⟩
 ·rw [e]; simp only [Bool.not_eq_true', decide_eq_false_iff_not] at e; simp [b0, e]
 ·simp only [Bool.not_eq_false', decide_eq_true_eq] at e
  simp only [Bool.or_eq_true, decide_eq_true_eq] at e2
  have h1 : (decide (g.pages < 1) || decide (g.pages > 64)) = true := by simp; omega
  rw [h1]
  simp only [b0, Bool.not_eq_true', decide_eq_false_iff_not]
  intro q; omega
 ·have e3 := of_decide_eq_true e3
  simp only [b0, Bool.not_eq_true', decide_eq_false_iff_not]
  intro q; omega
 ·have e3 := of_decide_eq_false e3
  simp only [Bool.not_eq_false', decide_eq_true_eq] at e
  simp only [Bool.or_eq_false_iff, decide_eq_false_iff_not] at e2
  rw [Bool.eq_iff_iff]; simp only [b0, Bool.not_eq_true', decide_eq_false_iff_not, decide_eq_true_eq]
  constructor
  ·intro q; by_cases h1 : g.regs > 256
   ·exact h1
   ·exact absurd ⟨e, by omega, by omega⟩ q
  ·intro q; intro h1; omega
 ·simp only [b0, Bool.not_eq_true', decide_eq_false_iff_not] at e
  rw [not_ok fun q => e ⟨q.1, q.2.1, q.2.2.1⟩]
 ·simp only [b0, Bool.not_eq_false', decide_eq_true_eq] at e
  obtain ⟨a1, a2, a3⟩ := e
  have p1 := pw_lt a1
  have m1 : g.page * g.pages ≤ 4096 * 64 := Int.mul_le_mul p1.2 a2.2 (by omega) (by omega)
  have m0 : 0 ≤ g.page * g.pages := Int.mul_nonneg (by omega) (by omega)
  have m2 : g.page * g.pages * g.regs ≤ 4096 * 64 * 256 := Int.mul_le_mul m1 a3.2 (by omega) (by omega)
  have m3 : 0 ≤ g.page * g.pages * g.regs := Int.mul_nonneg m0 (by omega)
  refine ⟨_, power_m (by decide) p1.2 h1, fun e => ?_, fun e => ?_⟩
  ·simp only [Bool.not_eq_true', decide_eq_false_iff_not] at e
   rw [not_ok fun q => e q.2.2.2.1]
   exact ⟨rfl, x1⟩
  ·simp only [Bool.not_eq_false', decide_eq_true_eq] at e
   have p3 := pw_lt e
   have hmax : 0 ≤ (if g.al > 32 then g.al else 32) ∧ (if g.al > 32 then g.al else 32) ≤ 4096 := by split <;> omega
   rw [w64 (x := g.page * g.pages) (by omega) (by omega), w64 (x := g.page * g.pages * g.regs) (by omega) (by omega), w64 (x := (if g.al > 32 then g.al else 32) + 24) (by omega) (by omega), w64 (x := (if g.al > 32 then g.al else 32) + 24 + 24) (by omega) (by omega)]
   refine ⟨fun c => ?_, fun c => ?_⟩
   ·simp only [Bool.or_eq_true, decide_eq_true_eq] at c
    rw [not_ok fun ⟨_, _, _, _, q1, q2, q3⟩ => by split at c <;> omega]
    exact ⟨rfl, x1⟩
   ·simp only [Bool.or_eq_false_iff, decide_eq_false_iff_not] at c
    rw [if_pos ⟨a1, a2, a3, e, by omega, by omega, by split at c <;> omega⟩]
    exact ⟨rfl, x1⟩
theorem check_r (g : Geo) (h : Heap) : HC Tryd.prog 16 #[g.v] h fun v h' => v = .int .i64 (if Gok g then 0 else 20) ∧ Ext h h' := by
 let P : Prop := pw g.page 16 4096 ∧ (1 ≤ g.pages ∧ g.pages ≤ 64) ∧ (2 ≤ g.regs ∧ g.regs ≤ 256) ∧ pw g.al 1 g.page
 have dP : Decidable P := by unfold P; infer_instance
 let b0 : Bool := !decide P
 have no : ¬ P → true = b0 := fun q => by simp [b0, q]
 refine f16_sh _ _ _ _ _ _ ⟨b0, fun _ h1 _ _ x1 => ⟨_, power_r (by decide) (by decide) h1, fun e => ?_, fun e => ⟨fun e2 => ?_, fun e2 => ⟨fun e3 => ?_, fun e3 => ⟨fun e4 => ?_, fun e4 => ⟨fun e5 => ?_, fun e5 => ?_⟩⟩⟩⟩⟩, fun e h1 x1 => ⟨?_, x1⟩, fun e => ?_⟩
 ·simp only [Bool.not_eq_true', decide_eq_false_iff_not] at e; exact (no fun q => e q.1).symm
 ·have := of_decide_eq_true e2; exact (no fun q => by have := q.2.1; omega).symm
 ·have := of_decide_eq_true e3; exact (no fun q => by have := q.2.1; omega).symm
 ·have := of_decide_eq_true e4; exact (no fun q => by have := q.2.2.1; omega).symm
 ·have := of_decide_eq_true e5; exact (no fun q => by have := q.2.2.1; omega).symm
 ·simp only [Bool.not_eq_false', decide_eq_true_eq] at e
  refine ⟨_, power_r (by decide) (pw_lt e).2 h1, ?_⟩
  have := of_decide_eq_false e2
  have := of_decide_eq_false e3
  have := of_decide_eq_false e4
  have := of_decide_eq_false e5
  simp only [b0]
  congr 1
  rw [Bool.eq_iff_iff]; simp only [decide_eq_true_eq]
  exact ⟨fun q => q.2.2.2, fun q => ⟨e, by omega, by omega, q⟩⟩
 ·simp only [b0, Bool.not_eq_true', decide_eq_false_iff_not] at e
  rw [not_ok fun q => e ⟨q.1, q.2.1, q.2.2.1, q.2.2.2.1⟩]
 ·simp only [b0, Bool.not_eq_false', decide_eq_true_eq] at e
  obtain ⟨a1, a2, a3, a4⟩ := e
  have p1 := pw_lt a1
  have p3 := pw_lt a4
  have m1 : g.page * g.pages ≤ 4096 * 64 := Int.mul_le_mul p1.2 a2.2 (by omega) (by omega)
  have m0 : 0 ≤ g.page * g.pages := Int.mul_nonneg (by omega) (by omega)
  have m2 : g.page * g.pages * g.regs ≤ 4096 * 64 * 256 := Int.mul_le_mul m1 a3.2 (by omega) (by omega)
  have m3 : 0 ≤ g.page * g.pages * g.regs := Int.mul_nonneg m0 (by omega)
  rw [w64 (x := g.page * g.pages) (by omega) (by omega), w64 (x := g.page * g.pages * g.regs) (by omega) (by omega), w64 (x := g.page * g.pages - 48) (by omega) (by omega)]
  refine ⟨fun c h1 x1 => ?_, fun c h1 x1 => ?_⟩
  ·simp only [Bool.or_eq_true, decide_eq_true_eq] at c
   rw [not_ok fun ⟨_, _, _, _, q1, q2, q3⟩ => by omega]
   exact ⟨rfl, x1⟩
  ·simp only [Bool.or_eq_false_iff, decide_eq_false_iff_not] at c
   rw [if_pos ⟨a1, a2, a3, a4, by omega, by omega, by omega⟩]
   exact ⟨rfl, x1⟩
theorem ok_bounds {g : Geo} (h : Gok g) : 128 ≤ g.sz ∧ g.sz ≤ 262144 ∧ 256 ≤ g.dev ∧ g.dev ≤ 1048576 ∧ 1 ≤ g.al ∧ g.al ≤ 4096 ∧ g.al + 48 ≤ g.sz ∧ 16 ≤ g.page ∧ g.page ≤ 4096 ∧ g.dev = g.sz * g.regs := by
 obtain ⟨a1, a2, a3, a4, a5, a6, a7⟩ := h
 have p1 := pw_lt a1
 have p3 := pw_lt a4
 have m1 : g.page * g.pages ≤ 4096 * 64 := Int.mul_le_mul p1.2 a2.2 (by omega) (by omega)
 have m2 : 128 * 2 ≤ g.page * g.pages * g.regs := Int.mul_le_mul a5 a3.1 (by omega) (by omega)
 exact ⟨a5, by unfold Geo.sz; omega, by unfold Geo.dev; omega, a6, p3.1, p3.2, a7, a1.2.1, p1.2, rfl⟩
theorem bytes_m (g : Geo) (h : Heap) : HC Tryd.prog 31 #[g.v] h fun v h' => v = (if Gok g then .tuple #[.int .i64 g.sz, .int .i64 g.dev, .int .i64 0] else .tuple #[.int .i64 0, .int .i64 0, .int .i64 20]) ∧ Ext h h' := by
 refine f31_sh _ _ _ _ _ _ fun _ h1 _ _ x1 => (check_m g h1).mono ?_
 rintro _ h2 ⟨rfl, x2⟩
 by_cases hg : Gok g
 ·have b := ok_bounds hg
  rw [if_pos hg, if_pos hg]
  have e1 : g.page * g.pages = g.sz := rfl
  have e2 : g.sz * g.regs = g.dev := rfl
  exact ⟨x2, _, rfl, fun e => by simp at e, fun _ => ⟨by rw [e1, w64 (x := g.sz) (by omega) (by omega), e2, w64 (x := g.dev) (by omega) (by omega)], x1.trans x2⟩⟩
 ·rw [if_neg hg, if_neg hg]
  exact ⟨x2, _, rfl, fun _ => ⟨rfl, x1.trans x2⟩, fun e => by simp at e⟩
theorem region_r {g : Geo} (hg : Gok g) (h : Heap) : HC Tryd.prog 45 #[g.v] h fun v h' => v = .int .i64 g.sz ∧ Ext h h' := by
 have b := ok_bounds hg
 exact f45_sh _ _ _ _ _ _ fun h1 x1 => ⟨by rw [w64 (x := g.page * g.pages) (by show -_ ≤ g.sz; omega) (by show g.sz ≤ _; omega)]; rfl, x1⟩
theorem device_r {g : Geo} (hg : Gok g) (h : Heap) : HC Tryd.prog 50 #[g.v] h fun v h' => v = .int .i64 g.dev ∧ Ext h h' := by
 have b := ok_bounds hg
 refine f50_sh _ _ _ _ _ _ fun h1 x1 => ⟨?_, x1⟩
 have e1 : g.page * g.pages = g.sz := rfl
 have e2 : g.sz * g.regs = g.dev := rfl
 rw [e1, w64 (x := g.sz) (by omega) (by omega), e2, w64 (x := g.dev) (by omega) (by omega)]
end Sc
end Go.Proofs.YthjehlocmikchaaDoor
namespace Go.Proofs.YthjehlocmikchaaDoor
namespace Sc
open Go
def upTo (n al : Int) : Int := (n + al - 1) / al * al
theorem p2_pow {x : Int} (h : x ∈ p2) : ∃ k : Nat, k ≤ 12 ∧ x = ((2 ^ k : Nat) : Int) := by
 simp only [p2, List.mem_cons, List.not_mem_nil, or_false] at h
 rcases h with h | h | h | h | h | h | h | h | h | h | h | h | h <;> subst h
 ·exact ⟨0, by decide, rfl⟩
 ·exact ⟨1, by decide, rfl⟩
 ·exact ⟨2, by decide, rfl⟩
 ·exact ⟨3, by decide, rfl⟩
 ·exact ⟨4, by decide, rfl⟩
 ·exact ⟨5, by decide, rfl⟩
 ·exact ⟨6, by decide, rfl⟩
 ·exact ⟨7, by decide, rfl⟩
 ·exact ⟨8, by decide, rfl⟩
 ·exact ⟨9, by decide, rfl⟩
 ·exact ⟨10, by decide, rfl⟩
 ·exact ⟨11, by decide, rfl⟩
 ·exact ⟨12, by decide, rfl⟩
theorem andNot_pow (a k : Nat) (ha : a < 2 ^ 64) (hk : k < 64) : a &&& (2 ^ 64 - 1 - (2 ^ k - 1)) = a / 2 ^ k * 2 ^ k := by
 have hp : 0 < 2 ^ k := Nat.two_pow_pos k
 have hl : 2 ^ k < 2 ^ 64 := Nat.pow_lt_pow_right (by decide) hk
 apply Nat.eq_of_testBit_eq; intro i
 have e : 2 ^ 64 - 1 - (2 ^ k - 1) = 2 ^ 64 - ((2 ^ k - 1) + 1) := by omega
 rw [Nat.testBit_and, e, Nat.testBit_two_pow_sub_succ (by omega), Nat.testBit_two_pow_sub_one, Nat.testBit_mul_two_pow, Nat.testBit_div_two_pow]
 by_cases h1 : k ≤ i
 ·have h2 : ¬ i < k := by omega
  simp only [h1, h2, decide_true, decide_false, Bool.not_false, Bool.and_true, Bool.true_and, ge_iff_le]
  rw [show i - k + k = i by omega]
  by_cases h3 : i < 64
  ·simp [h3]
  ·have : a.testBit i = false := Nat.testBit_lt_two_pow (Nat.lt_of_lt_of_le ha (Nat.pow_le_pow_right (by decide) (by omega)))
   rw [this]; simp
 ·have h2 : i < k := by omega
  simp [h1, h2]
theorem up_bits {n al : Int} (h0 : 0 ≤ n) (h1 : n ≤ 4398046511104) (ha : al ∈ p2) : ibandNot .i64 (IntKind.i64.wrap (IntKind.i64.wrap (n + al) - 1)) (IntKind.i64.wrap (al - 1)) = upTo n al := by
 obtain ⟨k, hk, rfl⟩ := p2_pow ha
 have hp : 0 < 2 ^ k := Nat.two_pow_pos k
 have hl : 2 ^ k ≤ 4096 := Nat.pow_le_pow_right (n := 2) (by decide) hk
 generalize hK : 2 ^ k = K at *
 rw [w64 (x := n + (K : Int)) (by omega) (by omega), w64 (x := n + (K : Int) - 1) (by omega) (by omega), w64 (x := (K : Int) - 1) (by omega) (by omega)]
 obtain ⟨m, rfl⟩ : ∃ m : Nat, n = m := ⟨n.toNat, by omega⟩
 have e1 : (BitVec.ofInt 64 ((m : Int) + K - 1)).toNat = m + K - 1 := by rw [bv64 (by omega) (by omega)]; omega
 have e2 : (BitVec.ofInt 64 ((K : Int) - 1)).toNat = K - 1 := by rw [bv64 (by omega) (by omega)]; omega
 have key : (BitVec.ofInt 64 ((m : Int) + K - 1) &&& ~~~ BitVec.ofInt 64 ((K : Int) - 1)).toNat = (m + K - 1) / K * K := by
  rw [BitVec.toNat_and, BitVec.toNat_not, e1, e2, ← hK]
  exact andNot_pow _ k (by rw [hK]; omega) (by omega)
 unfold ibandNot
 show IntKind.i64.wrap ((BitVec.ofInt 64 ((m : Int) + K - 1) &&& ~~~ BitVec.ofInt 64 ((K : Int) - 1)).toNat : Int) = _
 rw [key]
 have hle : (m + K - 1) / K * K ≤ m + K - 1 := Nat.div_mul_le_self _ _
 rw [w64 (by omega) (by omega)]
 unfold upTo
 have e3 : (m : Int) + (K : Int) - 1 = ((m + K - 1 : Nat) : Int) := by omega
 rw [e3]
 simp
theorem up_m {n al : Int} (h0 : 0 ≤ n) (h1 : n ≤ 4398046511104) (ha : al ∈ p2) (h : Heap) : HC Tryd.prog 63 #[.int .i64 n, .int .i64 al] h fun v h' => v = .int .i64 (upTo n al) ∧ h' = h :=
 f63_sh _ _ _ _ ⟨by rw [up_bits h0 h1 ha], rfl⟩
def upE (g : Geo) (n : Int) : Value := if Gok g then (if n < 0 ∨ n > g.dev then .tuple #[.int .i64 0, .int .i64 23] else .tuple #[.int .i64 (upTo n g.al), .int .i64 0]) else .tuple #[.int .i64 0, .int .i64 20]
theorem Up_m (g : Geo) (n : Int) (h : Heap) : HC Tryd.prog 33 #[g.v, .int .i64 n] h fun v h' => v = upE g n ∧ Ext h h' := by
 refine f33_sh _ _ _ _ _ _ _ fun _ h1 _ _ x1 => (bytes_m g h1).mono ?_
 rintro _ h2 ⟨rfl, x2⟩
 unfold upE
 by_cases hg : Gok g
 ·have b := ok_bounds hg
  rw [if_pos hg, if_pos hg]
  refine ⟨x2, _, _, _, rfl, fun e => by simp at e, fun _ => ⟨fun e => ?_, fun e => ?_⟩⟩
  ·simp only [Bool.or_eq_true, decide_eq_true_eq] at e
   rw [if_pos (by omega)]; exact ⟨rfl, x1.trans x2⟩
  ·simp only [Bool.or_eq_false_iff, decide_eq_false_iff_not] at e
   rw [if_neg (by omega)]
   exact ⟨_, up_m (by omega) (by omega) hg.2.2.2.1.1 h2, rfl, x1.trans x2⟩
 ·rw [if_neg hg, if_neg hg]
  exact ⟨x2, _, _, _, rfl, fun _ => ⟨rfl, x1.trans x2⟩, fun e => by simp at e⟩
theorem upTo_ge {n al : Int} (ha : 1 ≤ al) : n ≤ upTo n al ∧ upTo n al < n + al ∧ upTo n al % al = 0 := by
 unfold upTo
 have h1 := Int.emod_add_mul_ediv (n + al - 1) al
 have h2 := Int.emod_nonneg (n + al - 1) (show al ≠ 0 by omega)
 have h3 := Int.emod_lt_of_pos (n + al - 1) (show 0 < al by omega)
 have h4 : (n + al - 1) / al * al = al * ((n + al - 1) / al) := Int.mul_comm _ _
 exact ⟨by omega, by omega, Int.mul_emod_left _ _⟩
theorem upTo_first {n al m : Int} (ha : 1 ≤ al) (h1 : n ≤ m) (h2 : m ≤ upTo n al) (h3 : m % al = 0) : m = upTo n al := by
 obtain ⟨a, b, c⟩ := upTo_ge (n := n) ha
 obtain ⟨q, hq⟩ := Int.dvd_of_emod_eq_zero h3
 obtain ⟨r, hr⟩ := Int.dvd_of_emod_eq_zero c
 by_cases e : q = r
 ·rw [hq, hr, e]
 ·have h4 : q < r := by
   have : al * q ≤ al * r := by omega
   have := Int.le_of_mul_le_mul_left this (by omega)
   omega
  have : al * (q + 1) ≤ al * r := Int.mul_le_mul_of_nonneg_left (by omega) (by omega)
  rw [Int.mul_add] at this
  omega
theorem Up_r (g : Geo) (n : Int) (h : Heap) : HC Tryd.prog 38 #[g.v, .int .i64 n] h fun v h' => v = upE g n ∧ Ext h h' := by
 refine f38_sh _ _ _ _ _ _ _ fun _ h1 _ _ x1 => (check_r g h1).mono ?_
 rintro _ h2 ⟨rfl, x2⟩
 unfold upE
 by_cases hg : Gok g
 ·have b := ok_bounds hg
  rw [if_pos hg, if_pos hg]
  refine ⟨x2, _, rfl, fun e => by simp at e, fun _ => ⟨fun j h3 => Ext h2 h3 ∧ j = decide (n < 0 ∨ n > g.dev), ⟨fun e => ?_, fun e => ?_⟩, ?_⟩⟩
  ·have := of_decide_eq_true e
   exact ⟨Ext.refl _, by simp [this]⟩
  ·have := of_decide_eq_false e
   refine (device_r hg h2).mono ?_
   rintro _ h4 ⟨rfl, x4⟩
   exact ⟨x4, _, rfl, x4, by simp [this]⟩
  ·rintro j h3 ⟨x3, rfl⟩
   have xx := x1.trans (x2.trans x3)
   refine ⟨fun e => ?_, fun e => ?_⟩
   ·rw [if_pos (of_decide_eq_true e)]; exact ⟨rfl, xx⟩
   ·have hn := of_decide_eq_false e
    rw [if_neg hn]
    obtain ⟨a, b1, _⟩ := upTo_ge (n := n) (al := g.al) (by omega)
    refine ⟨fun m => n ≤ m ∧ m ≤ upTo n g.al, fun m => (upTo n g.al - m).toNat, ⟨Int.le_refl _, a⟩, ?_⟩
    rintro m ⟨m1, m2⟩
    have ht : Int.tmod m g.al = m % g.al := Int.tmod_eq_emod_of_nonneg (by omega)
    rw [ht]
    refine ⟨by omega, fun e => ?_, fun e => ?_⟩
    ·have hne : m ≠ upTo n g.al := fun q => by
      have := (upTo_ge (n := n) (al := g.al) (by omega)).2.2
      rw [← q] at this; rw [this] at e; simp at e
     rw [w64 (by omega) (by omega)]
     exact ⟨⟨by omega, by omega⟩, by show (upTo n g.al - (m + 1)).toNat < (upTo n g.al - m).toNat; omega⟩
    ·have h3 : m % g.al = 0 := by simpa using e
     rw [upTo_first (by omega) m1 m2 h3]; exact ⟨rfl, xx⟩
 ·rw [if_neg hg, if_neg hg]
  exact ⟨x2, _, rfl, fun _ => ⟨rfl, x1.trans x2⟩, fun e => by simp at e⟩
end Sc
end Go.Proofs.YthjehlocmikchaaDoor
namespace Go.Proofs.YthjehlocmikchaaDoor
namespace Sc
open Go
def U32 (x : Int) : Prop := 0 ≤ x ∧ x < 4294967296
theorem wrap32 (x : Int) : U32 (IntKind.u32.wrap x) := by
 unfold U32 IntKind.wrap
 simp only [IntKind.bits, IntKind.signed]
 constructor
 ·simp; omega
 ·simp; omega
theorem wu32 {x : Int} (h : U32 x) : IntKind.u32.wrap x = x := by
 unfold U32 at h
 unfold IntKind.wrap
 simp [IntKind.bits, IntKind.signed]; omega
theorem xor32 (a b : Int) : U32 (ibxor .u32 a b) := wrap32 _
theorem bv32 {n : Int} (h : U32 n) : (BitVec.ofInt 32 n).toNat = n.toNat := by
 obtain ⟨h0, h1⟩ := h
 rw [BitVec.toNat_ofInt]
 have : n % ((2 : Nat) ^ 32 : Nat) = n := Int.emod_eq_of_lt h0 (by omega)
 rw [this]
theorem xor_val {a b : Int} (ha : U32 a) (hb : U32 b) : ibxor .u32 a b = ((a.toNat ^^^ b.toNat : Nat) : Int) := by
 unfold ibxor
 show IntKind.u32.wrap ((BitVec.ofInt 32 a ^^^ BitVec.ofInt 32 b).toNat : Int) = _
 have hl : (BitVec.ofInt 32 a ^^^ BitVec.ofInt 32 b).toNat < 2 ^ 32 := (BitVec.ofInt 32 a ^^^ BitVec.ofInt 32 b).isLt
 rw [wu32 ⟨by omega, by omega⟩, BitVec.toNat_xor, bv32 ha, bv32 hb]
theorem not_not {x : Int} (h : U32 x) : ibxor .u32 4294967295 (ibxor .u32 4294967295 x) = x := by
 have hm : U32 4294967295 := ⟨by decide, by decide⟩
 rw [xor_val hm (xor32 _ _), xor_val hm h, Int.toNat_natCast, ← Nat.xor_assoc, Nat.xor_self, Nat.zero_xor]
 have := h.1; omega
theorem and_one {x : Int} (h : U32 x) : iband .u32 x 1 = x % 2 := by
 unfold iband
 show IntKind.u32.wrap ((BitVec.ofInt 32 x &&& BitVec.ofInt 32 1).toNat : Int) = _
 rw [BitVec.toNat_and, bv32 h, bv32 ⟨by decide, by decide⟩, show (1 : Int).toNat = 1 from rfl, Nat.and_one_is_mod]
 have := h.1
 rw [wu32 ⟨by omega, by omega⟩]
 omega
def stp (x : Int) : Int := bif (x % 2) == 1 then ibxor .u32 (x / 2) 2197175160 else x / 2
theorem stp32 {x : Int} (h : U32 x) : U32 (stp x) := by
 unfold stp
 cases (x % 2 == 1)
 ·have := h.1; have := h.2; exact ⟨by simp; omega, by simp; omega⟩
 ·exact xor32 _ _
def stpN : Nat → Int → Int
 | 0, x => x
 | n + 1, x => stp (stpN n x)
theorem stpN32 {x : Int} (h : U32 x) : ∀ n, U32 (stpN n x)
 | 0 => h
 | n + 1 => stp32 (stpN32 h n)
theorem shifted_m {x : Int} (hx : U32 x) (n : Nat) (hn : n ≤ 1000000) (h : Heap) : HC Tryd.prog 106 #[.int .u32 x, .int .i64 n] h fun v h' => v = .int .u32 (stpN n x) ∧ h' = h := by
 refine f106_sh _ _ _ _ ⟨fun y v => ∃ k : Nat, v = k ∧ k ≤ n ∧ y = stpN k x, fun _ v => n - v.toNat, ⟨0, rfl, Nat.zero_le _, rfl⟩, ?_⟩
 rintro _ _ ⟨k, rfl, hk, rfl⟩
 refine ⟨fun hlt y hy => ?_, fun hge => ?_⟩
 ·have hkn := lt_of_dec hlt
  rw [wadd k (by omega)]
  refine ⟨⟨k + 1, rfl, hkn, ?_⟩, by simp only [Int.toNat_natCast]; omega⟩
  rw [hy, and_one (stpN32 hx k)]
  have : Int.fdiv (stpN k x) (2 ^ min (Int.toNat 1) 32) = stpN k x / 2 := Int.fdiv_eq_ediv_of_nonneg _ (by decide)
  rw [this]; rfl
 ·have : k = n := by have := ge_of_dec hge; omega
  subst this; exact ⟨rfl, rfl⟩
def crcG (s : Int) (L : List Int) : Int := L.foldl (fun x b => stpN 8 (ibxor .u32 x b)) s
def crc (s : Int) (L : List Int) : Int := ibxor .u32 4294967295 (crcG (ibxor .u32 4294967295 s) L)
theorem crcG32 {s : Int} (h : U32 s) (L : List Int) : U32 (crcG s L) := by
 induction L generalizing s with
 | nil => exact h
 | cons b L ih => exact ih (stpN32 (xor32 _ _) 8)
theorem crc32 (s : Int) (L : List Int) : U32 (crc s L) := xor32 _ _
theorem crc_app (s : Int) (A B : List Int) : crc (crc s A) B = crc s (A ++ B) := by
 unfold crc
 rw [not_not (crcG32 (xor32 _ _) A)]
 unfold crcG
 rw [List.foldl_append]
theorem crcG_take {s : Int} {L : List Int} {k : Nat} (h : k < L.length) : crcG s (L.take (k + 1)) = stpN 8 (ibxor .u32 (crcG s (L.take k)) L[k]) := by
 unfold crcG
 rw [List.take_add_one, List.getElem?_eq_getElem h, List.foldl_append]; rfl
section
variable {h : Heap} {a : Option Addr} {c : Nat} {L : List Int}
theorem isB_at (hb : isB L) {k : Nat} (hk : k < L.length) : 0 ≤ L[k] ∧ L[k] < 256 := hb _ (List.getElem_mem hk)
theorem ext_m (s : Sl eB h a c L) (hb : isB L) (hl : L.length ≤ 1099511627776) (x : Int) : HC Tryd.prog 87 #[.int .u32 x, .slice a L.length c] h fun v h' => v = .int .u32 (crc x L) ∧ h' = h := by
 refine f87_sh _ _ _ _ _ _ ⟨fun y v => ∃ k : Nat, v = k ∧ k ≤ L.length ∧ y = crcG (ibxor .u32 4294967295 x) (L.take k), fun _ v => L.length - v.toNat, ⟨0, rfl, Nat.zero_le _, rfl⟩, ?_⟩
 rintro _ _ ⟨k, rfl, hk, rfl⟩
 refine ⟨fun hlt => ?_, fun hge => ?_⟩
 ·have hkl := lt_of_dec hlt
  obtain ⟨b, o, e, d⟩ := s.at (List.getElem?_eq_getElem hkl)
  have hB := isB_at hb hkl
  refine ⟨b, o, e, by omega, by omega, _, d.1, _, shifted_m (xor32 _ _) 8 (by decide) h, ?_⟩
  rw [wadd k (by omega), wu32 ⟨hB.1, by omega⟩]
  exact ⟨⟨k + 1, rfl, hkl, (crcG_take hkl).symm⟩, by simp only [Int.toNat_natCast]; omega⟩
 ·have hkl : k = L.length := by have := ge_of_dec hge; omega
  rw [hkl, List.take_length]; exact ⟨rfl, rfl⟩
theorem crc_m (s : Sl eB h a c L) (hb : isB L) (hl : L.length ≤ 1099511627776) : HC Tryd.prog 68 #[.slice a L.length c] h fun v h' => v = .int .u32 (crc 0 L) ∧ h' = h :=
 f68_sh _ _ _ _ _ ⟨_, ext_m s hb hl 0, rfl, rfl⟩
theorem ext_r (s : Sl eB h a c L) (hb : isB L) (hl : L.length ≤ 1099511627776) (x : Int) : HC Tryd.prog 72 #[.int .u32 x, .slice a L.length c] h fun v h' => v = .int .u32 (crc x L) ∧ h' = h := by
 refine f72_sh _ _ _ _ _ _ ⟨fun y v => ∃ k : Nat, v = k ∧ k ≤ L.length ∧ y = crcG (ibxor .u32 4294967295 x) (L.take k), fun _ v => L.length - v.toNat, ⟨0, rfl, Nat.zero_le _, rfl⟩, ?_⟩
 rintro _ _ ⟨k, rfl, hk, rfl⟩
 refine ⟨fun hlt => ?_, fun hge => ?_⟩
 ·have hkl := lt_of_dec hlt
  obtain ⟨b, o, e, d⟩ := s.at (List.getElem?_eq_getElem hkl)
  have hB := isB_at hb hkl
  refine ⟨b, o, e, by omega, by omega, _, d.1, ?_⟩
  rw [wu32 ⟨hB.1, by omega⟩]
  refine ⟨fun y v => ∃ j : Nat, v = j ∧ j ≤ 8 ∧ y = stpN j (ibxor .u32 (crcG (ibxor .u32 4294967295 x) (L.take k)) L[k]), fun _ v => 8 - v.toNat, ⟨0, rfl, Nat.zero_le _, rfl⟩, ?_⟩
  rintro _ _ ⟨j, rfl, hj, rfl⟩
  refine ⟨fun hlt2 y hy => ?_, fun hge2 => ?_⟩
  ·have hj8 : j < 8 := by have := of_decide_eq_true hlt2; omega
   rw [wadd j (by omega)]
   refine ⟨⟨j + 1, rfl, hj8, ?_⟩, by simp only [Int.toNat_natCast]; omega⟩
   rw [show stpN (j + 1) (ibxor .u32 (crcG (ibxor .u32 4294967295 x) (L.take k)) L[k]) = stp (stpN j (ibxor .u32 (crcG (ibxor .u32 4294967295 x) (L.take k)) L[k])) from rfl]
   have hu := stpN32 (xor32 (crcG (ibxor .u32 4294967295 x) (L.take k)) L[k]) j
   generalize stpN j (ibxor .u32 (crcG (ibxor .u32 4294967295 x) (L.take k)) L[k]) = z at *
   have h0 := hu.1
   have h1 := hu.2
   rw [hy, Int.tmod_eq_emod_of_nonneg h0, Int.tdiv_eq_ediv_of_nonneg h0, wu32 ⟨by omega, by omega⟩]; rfl
  ·have hj8 : j = 8 := by have := of_decide_eq_false hge2; omega
   subst hj8
   rw [wadd k (by omega)]
   exact ⟨⟨k + 1, rfl, hkl, (crcG_take hkl).symm⟩, by simp only [Int.toNat_natCast]; omega⟩
 ·have hkl : k = L.length := by have := ge_of_dec hge; omega
  rw [hkl, List.take_length]; exact ⟨rfl, rfl⟩
theorem crc_r (s : Sl eB h a c L) (hb : isB L) (hl : L.length ≤ 1099511627776) : HC Tryd.prog 44 #[.slice a L.length c] h fun v h' => v = .int .u32 (crc 0 L) ∧ h' = h :=
 f44_sh _ _ _ _ _ ⟨_, ext_r s hb hl 0, rfl, rfl⟩
end
def le : List Int → Int
 | [] => 0
 | b :: L => b + 256 * le L
theorem le_nonneg {L : List Int} (hb : isB L) : 0 ≤ le L ∧ le L < 256 ^ L.length := by
 induction L with
 | nil => exact ⟨Int.le_refl _, by decide⟩
 | cons b L ih =>
  obtain ⟨h0, h1⟩ := ih fun x hx => hb x (List.mem_cons_of_mem _ hx)
  have := hb b (by simp)
  simp only [le, List.length_cons]
  rw [Int.pow_succ]
  omega
theorem le_app (A B : List Int) : le (A ++ B) = le A + 256 ^ A.length * le B := by
 induction A with
 | nil => simp [le]
 | cons a A ih =>
  simp only [List.cons_append, le, ih, List.length_cons]
  rw [Int.pow_succ, Int.mul_add, ← Int.mul_assoc, Int.add_assoc, Int.mul_comm 256 (256 ^ A.length)]
theorem le_take {L : List Int} {k : Nat} (hk : k < L.length) : le (L.take (k + 1)) = le (L.take k) + 256 ^ k * L[k] := by
 rw [List.take_add_one, List.getElem?_eq_getElem hk, le_app]
 rw [List.length_take, Nat.min_eq_left (by omega)]
 simp [le]
theorem isB_take {L : List Int} (hb : isB L) (k : Nat) : isB (L.take k) := fun x hx => hb x (List.mem_of_mem_take hx)
theorem isB_drop {L : List Int} (hb : isB L) (k : Nat) : isB (L.drop k) := fun x hx => hb x (List.mem_of_mem_drop hx)
theorem isB_app {A B : List Int} (ha : isB A) (hb : isB B) : isB (A ++ B) := fun x hx => (List.mem_append.1 hx).elim (ha x) (hb x)
theorem pow256 (k : Nat) : (256 : Int) ^ k = ((2 ^ (8 * k) : Nat) : Int) := by
 rw [Nat.pow_mul]; simp
theorem or_add {n b : Int} {k : Nat} (hk : k < 8) (h0 : 0 ≤ n) (h1 : n < 256 ^ k) (hb : 0 ≤ b ∧ b < 256) : ibor .u64 n (b * 2 ^ (8 * k)) = n + 256 ^ k * b := by
 rw [pow256] at h1 ⊢
 have hp : 0 < 2 ^ (8 * k) := Nat.two_pow_pos _
 have hle : 2 ^ (8 * k) ≤ 2 ^ 56 := Nat.pow_le_pow_right (by decide) (by omega)
 generalize hK : 2 ^ (8 * k) = K at *
 have e0 : (2 : Int) ^ (8 * k) = (K : Int) := by rw [← hK]; simp
 rw [e0]
 obtain ⟨m, rfl⟩ : ∃ m : Nat, n = m := ⟨n.toNat, by omega⟩
 obtain ⟨c, rfl⟩ : ∃ c : Nat, b = c := ⟨b.toNat, by omega⟩
 have hc : c < 256 := by omega
 have hm : m < K := by omega
 have hck : c * K ≤ 255 * K := Nat.mul_le_mul_right _ (by omega)
 have e1 : (c : Int) * (K : Int) = ((c * K : Nat) : Int) := by simp
 rw [e1]
 unfold ibor
 show IntKind.u64.wrap ((BitVec.ofInt 64 (m : Int) ||| BitVec.ofInt 64 ((c * K : Nat) : Int)).toNat : Int) = _
 have e2 : (m ||| c * K) = c * K + m := by
  rw [Nat.or_comm, Nat.mul_comm c K, ← hK, ← Nat.two_pow_add_eq_or_of_lt (by rw [hK]; exact hm)]
 rw [BitVec.toNat_or, bv64 (by omega) (by omega), bv64 (by omega) (by omega), Int.toNat_natCast, Int.toNat_natCast, e2]
 rw [wu64 (by omega) (by omega)]
 have e3 : (K : Int) * (c : Int) = ((c * K : Nat) : Int) := by rw [Int.mul_comm]; simp
 rw [e3]; omega
section
variable {h : Heap} {a : Option Addr} {c : Nat} {L : List Int}
theorem number_m (s : Sl eB h a c L) (hb : isB L) (hl : L.length ≤ 8) : HC Tryd.prog 60 #[.slice a L.length c] h fun v h' => v = .int .u64 (le L) ∧ h' = h := by
 refine f60_sh _ _ _ _ _ ⟨fun y v => ∃ k : Nat, v = k ∧ k ≤ L.length ∧ y = le (L.take k), fun _ v => L.length - v.toNat, ⟨0, rfl, Nat.zero_le _, rfl⟩, ?_⟩
 rintro _ _ ⟨k, rfl, hk, rfl⟩
 refine ⟨fun hlt => ?_, fun hge => ?_⟩
 ·have hkl := lt_of_dec hlt
  obtain ⟨b, o, e, d⟩ := s.at (List.getElem?_eq_getElem hkl)
  have hB := isB_at hb hkl
  have e8 : IntKind.i64.wrap (8 * (k : Int)) = ((8 * k : Nat) : Int) := by rw [w64 (by omega) (by omega)]; simp
  have hn := le_nonneg (isB_take hb k)
  rw [List.length_take, Nat.min_eq_left hk] at hn
  refine ⟨b, o, e, by omega, by omega, _, d.1, by rw [e8]; omega, ?_⟩
  rw [wadd k (by omega), e8, Int.toNat_natCast, wu64 (x := L[k]) hB.1 (by omega), Nat.min_eq_left (show 8 * k ≤ 64 by omega)]
  have hw : IntKind.u64.wrap (L[k] * 2 ^ (8 * k)) = L[k] * 2 ^ (8 * k) := by
   have hle : (2 : Nat) ^ (8 * k) ≤ 2 ^ 56 := Nat.pow_le_pow_right (by decide) (by omega)
   have e0 : (2 : Int) ^ (8 * k) = ((2 ^ (8 * k) : Nat) : Int) := by simp
   have hp : 0 < 2 ^ (8 * k) := Nat.two_pow_pos _
   rw [e0]
   generalize 2 ^ (8 * k) = K at *
   have h1 : L[k] * (K : Int) ≤ 255 * (K : Int) := Int.mul_le_mul_of_nonneg_right (by omega) (by omega)
   have h0 : 0 ≤ L[k] * (K : Int) := Int.mul_nonneg hB.1 (by omega)
   exact wu64 h0 (by omega)
  rw [hw, or_add (by omega) hn.1 hn.2 hB]
  exact ⟨⟨k + 1, rfl, hkl, (le_take hkl).symm⟩, by simp only [Int.toNat_natCast]; omega⟩
 ·have hkl : k = L.length := by have := ge_of_dec hge; omega
  rw [hkl, List.take_length]; exact ⟨rfl, rfl⟩
end
end Sc
end Go.Proofs.YthjehlocmikchaaDoor
