import Derived.Laws.BytesString
import Derived.Test.YthjehlocmikchaaDoorDvPrv
import Derived.Test.YthjehlocmikchaaDoorDvMor
import Derived.Test.YthjehlocmikchaaDoorDvStr
namespace Go.Proofs.YthjehlocmikchaaDoor
open Go
abbrev eB : Elt Int := eInt .u8
def toL (s : ByteArray) : List Int := s.data.toList.map fun b => (b.toNat : Int)
def ofL (L : List Int) : ByteArray := ⟨(L.map fun n => UInt8.ofNat n.toNat).toArray⟩
theorem toL_len (s : ByteArray) : (toL s).length = s.size := by unfold toL; rw [List.length_map]; rfl
def isB (L : List Int) : Prop := ∀ x ∈ L, 0 ≤ x ∧ x < 256
theorem toL_isB (s : ByteArray) : isB (toL s) := fun x hx => by
  obtain ⟨b, _, rfl⟩ := List.mem_map.1 hx
  have := b.toNat_lt; omega
theorem ofL_toL (s : ByteArray) : ofL (toL s) = s := by
  apply ba_ext
  simp only [ofL, toL, List.map_map]
  conv => rhs; rw [← List.map_id s.data.toList]
  apply List.map_congr_left
  intro b _
  simp
theorem toL_ofL {L : List Int} (h : isB L) : toL (ofL L) = L := by
  simp only [ofL, toL, List.map_map]
  conv => rhs; rw [← List.map_id L]
  apply List.map_congr_left
  intro x hx
  have := h x hx
  simp only [Function.comp_apply, UInt8.toNat_ofNat', id_eq]
  omega
theorem ofL_size (L : List Int) : (ofL L).size = L.length := by simp [ofL, ByteArray.size]
section
variable {P : Program} {ρ : Regs} {h : Heap} {d : Option Nat} {ty : TypeId} {p : String} {af : Array Edge} {g : Option (Nat × Bool)}
def ibV (op : BinOp) (k : IntKind) (x y : Int) : Option Int :=
  match op with
  | .and => some (k.wrap (BitVec.ofInt k.bits x &&& BitVec.ofInt k.bits y).toNat)
  | .or => some (k.wrap (BitVec.ofInt k.bits x ||| BitVec.ofInt k.bits y).toNat)
  | .xor => some (k.wrap (BitVec.ofInt k.bits x ^^^ BitVec.ofInt k.bits y).toNat)
  | .andNot => some (k.wrap (BitVec.ofInt k.bits x &&& ~~~ BitVec.ofInt k.bits y).toNat)
  | _ => none
def iband (k : IntKind) (x y : Int) : Int := k.wrap (BitVec.ofInt k.bits x &&& BitVec.ofInt k.bits y).toNat
def ibor (k : IntKind) (x y : Int) : Int := k.wrap (BitVec.ofInt k.bits x ||| BitVec.ofInt k.bits y).toNat
def ibxor (k : IntKind) (x y : Int) : Int := k.wrap (BitVec.ofInt k.bits x ^^^ BitVec.ofInt k.bits y).toNat
def ibandNot (k : IntKind) (x y : Int) : Int := k.wrap (BitVec.ofInt k.bits x &&& ~~~ BitVec.ofInt k.bits y).toNat
theorem hv_bits {op : BinOp} {t t' : TypeId} {x y : Operand} {k : IntKind} {a b v : Int} (hx : ev ρ x = .int k a) (hy : ev ρ y = .int k b) (hv : ibV op k a b = some v) : HVal P ρ ⟨d, .binOp op t x y t', ty, p, af, g⟩ h (.int k v) :=
  hv_of fun w _ => by
    cases op <;> simp only [ibV, Option.some.injEq, reduceCtorEq] at hv <;> subst hv <;> simp [execOp, hx, hy, go_sem, eqGuard, binOp, Op.intBits]
theorem hv_unXor {t : TypeId} {x : Operand} {k : IntKind} {n m : Int} (hx : ev ρ x = .int k n) (hm : (if k.signed then -1 else k.max) = m) : HVal P ρ ⟨d, .unOp .xor t x, ty, p, af, g⟩ h (.int k (ibxor k m n)) :=
  hv_of fun w _ => by
    subst hm
    simp [execOp, hx, go_sem, Op.unary, Op.intBits, ibxor]
def elA (P : Program) (t : TypeId) : Option (Nat × Nat) := match P.underlying t with | some (.array n e) => (szB P e).map fun z => (n, z) | _ => none
theorem hv_indexA {t : TypeId} {x y : Operand} {b o n sz : Nat} {k : IntKind} {i : Int} (he : elA P t = some (n, sz)) (hx : ev ρ x = ptr b o) (hy : ev ρ y = .int k i) (h0 : 0 ≤ i) (h1 : i < n) : HVal P ρ ⟨d, .indexAddr t x y, ty, p, af, g⟩ h (ptr b (o + i.toNat * sz)) :=
  hv_of fun w _ => by
    unfold elA at he
    split at he <;> try cases he
    rename_i n' e hu
    cases hz : szB P e with
    | none => rw [hz] at he; cases he
    | some z =>
      rw [hz] at he
      simp only [Option.map_some, Option.some.injEq, Prod.mk.injEq] at he
      obtain ⟨rfl, rfl⟩ := he
      simp [execOp, hx, hy, ptr, go_sem, Instr.indexAt, Instr.sureAddr, asIntOf, run_underlying hu, h0, h1, run_sizeOf hz, add_lit]
theorem foldl_push (ns : List Int) : ∀ r : ByteArray, ns.foldl (fun r n => r.push (UInt8.ofNat n.toNat)) r = ⟨r.data ++ (ns.map fun n => UInt8.ofNat n.toNat).toArray⟩ := by
  induction ns with
  | nil => intro r; simp
  | cons n ns ih => intro r; simp only [List.foldl_cons]; rw [ih]; simp [ByteArray.push]
def Byt (h : Heap) (a : Option Addr) (n : Nat) (L : List Int) : Prop := L.length = n ∧ (n = 0 ∨ ∃ b o, a = some ⟨b, o, none⟩ ∧ HCells h b o (L.map (Value.int .u8)))
theorem Sl.byt {a : Option Addr} {c : Nat} {L : List Int} (s : Sl eB h a c L) : Byt h a L.length L := by
  refine ⟨rfl, ?_⟩
  cases hl : L with
  | nil => exact .inl rfl
  | cons y L' =>
    obtain ⟨b, o, e, hc⟩ := s.addr (by rw [hl]; simp)
    rw [← hl]
    refine .inr ⟨b, o, e, HCells.mk fun j v hj => ?_⟩
    rw [List.getElem?_map] at hj
    cases hx : L[j]? with
    | none => rw [hx] at hj; simp at hj
    | some x =>
      rw [hx] at hj; simp at hj; subst hj
      have := (hc j x hx).get (j := 0) (v := .int .u8 x) rfl
      have k1 : eB.k = 1 := rfl
      rw [k1, Nat.mul_one] at this
      simpa using this
theorem Byt.ext {h h' : Heap} (he : Ext h h') {a : Option Addr} {n : Nat} {L : List Int} (b : Byt h a n L) : Byt h' a n L :=
  ⟨b.1, b.2.imp id fun ⟨q, o, e, hc⟩ => ⟨q, o, e, HCells.mk fun _ _ hj => he.cell (hc.get hj)⟩⟩
theorem hv_b2s {src dst e : TypeId} {x : Operand} {a : Option Addr} {n c : Nat} {L : List Int} (hs : P.underlying src = some (.slice e)) (he : P.underlying e = some (.int .u8)) (hd : P.underlying dst = some .string)
    (hx : ev ρ x = .slice a n c) (hb : Byt h a n L) : HVal P ρ ⟨d, .convert src dst x, ty, p, af, g⟩ h (.string (ofL L)) :=
  hv_of fun w hw => by
    obtain ⟨hl, hn⟩ := hb
    have key : (convert src dst (.slice a n c)).run P w = .ok (.string (ofL L)) w := by
      rw [run_convert_bytes_string w src dst e a n c hs he hd]
      cases a with
      | none =>
        have : L = [] := by
          rcases hn with h0 | ⟨b, o, e, _⟩
          · exact List.eq_nil_of_length_eq_zero (by omega)
          · cases e
        subst this
        simp [Conv.bytesToString, go_sem, ofL]; rfl
      | some ad =>
        have hload : (loadCells ad n).run P w = .ok (L.map (Value.int .u8)).toArray w := by
          rcases hn with h0 | ⟨b, o, e, hc⟩
          · have : L = [] := List.eq_nil_of_length_eq_zero (by omega)
            subst this; subst h0
            simp [loadCells, loadCellsFrom, go_sem]
          · cases e
            have := run_loadFrom (P := P) w b o (L.map (Value.int .u8)) 0 #[] (by rw [hw]; exact hc)
            simp only [Array.empty_append, List.length_map, hl] at this
            exact this
        rw [run_bytesToString w ad n c L hload, foldl_push]
        congr 1
        simp [ofL]
    simp only [execOp, hx, Sem.run_bind, key, Result.andThen_ok, Sem.run_pure]
def hfrz (h : Heap) (b n : Nat) : Heap := h.modify b fun
  | .cells c elem (lo, hi) => .cells c elem (if lo == hi then (n, n + 1) else (min lo n, max hi (n + 1)))
  | o => o
theorem hfrz_row {b n : Nat} {cs : Array Value} {T : TypeId} (r : h[b]? = some (.cells cs T (0, 0))) : (hfrz h b n)[b]? = some (.cells cs T (n, n + 1)) := by
  unfold hfrz; rw [Array.getElem?_modify]; simp [r]
theorem hfrz_ne {b b' n : Nat} (hb : b' ≠ b) : (hfrz h b n)[b']? = h[b']? := by
  unfold hfrz; rw [Array.getElem?_modify, if_neg (Ne.symm hb)]
theorem hfrz_size {b n : Nat} : (hfrz h b n).size = h.size := by unfold hfrz; simp
theorem HG.hfrz (h : Heap) (b n : Nat) : HG h (hfrz h b n) := ⟨by rw [hfrz_size]; exact Nat.le_refl _, fun i hi => by
  unfold Go.Proofs.YthjehlocmikchaaDoor.hfrz; rw [Array.getElem?_modify]
  split
  · rename_i e; subst e; rw [hi]; rfl
  · exact hi⟩
theorem fr_hfrz (S : Nat → Prop) {b n : Nat} (hS : b < h.size → S b) : Fr S h (hfrz h b n) :=
  ⟨Nat.le_of_eq hfrz_size.symm, fun i hi hn => hfrz_ne fun e => hn (by subst e; exact hS hi)⟩
theorem run_markS {w : World} {b o n : Nat} {cs : Array Value} {T : TypeId} (r : w.heap[b]? = some (.cells cs T (0, 0))) (hn : n = cs.size) : (markStringish ⟨b, o, none⟩).run P w = .ok () { w with heap := hfrz w.heap b n } := by
  subst hn
  have hs : w.shape? b = some (T, cs.size) := by unfold World.shape?; rw [r]
  unfold markStringish
  simp only [Sem.run_bind, run_shape, Result.andThen_ok, hs, run_freeze]
  congr 1
theorem hs_mark {t e : TypeId} {x : Operand} {b n c : Nat} {cs : Array Value} {T : TypeId} {K : Value → Heap → Prop} (hd : P.underlying t = some (.slice e)) (he : P.underlying e = some (.int .u8)) (hx : ev ρ x = .slice (some ⟨b, 0, none⟩) n c) (r : h[b]? = some (.cells cs T (0, 0)))
    (hk : ∀ h', h' = hfrz h b cs.size → K (.slice (some ⟨b, 0, none⟩) n c) h') : HStep P ρ ⟨d, .convert t t x, ty, p, af, g⟩ h K := by
  intro w hw
  subst hw
  have hc : (convert t t (.slice (some ⟨b, 0, none⟩) n c)).run P w = .ok (.slice (some ⟨b, 0, none⟩) n c) { w with heap := hfrz w.heap b cs.size } := by
    simp [convert, run_underlying hd, run_underlying he]
    rw [run_markS r rfl]; rfl
  simp only [execOp, hx, Sem.run_bind, hc, Result.andThen_ok, Sem.run_pure]
  exact ⟨⟨rfl, rfl, rfl, Nat.le_refl _, HG.hfrz _ _ _⟩, hk _ rfl⟩
theorem hs_s2b {src dst e : TypeId} {x : Operand} {s : ByteArray} {K : Value → Heap → Prop} (hs : P.underlying src = some .string) (hd : P.underlying dst = some (.slice e)) (he : P.underlying e = some (.int .u8)) (hx : ev ρ x = .string s) (h63 : s.size < 9223372036854775807)
    (hk : ∀ b cap h', b = h.size → s.size ≤ cap → cap ≤ 9223372036854775807 → h' = h.push (.cells ((toL s).map (Value.int .u8) ++ List.replicate (cap - s.size) (Value.int .u8 0)).toArray e (cap, cap + 1)) → K (.slice (some ⟨b, 0, none⟩) s.size cap) h') :
    HStep P ρ ⟨d, .convert src dst x, ty, p, af, g⟩ h K := by
  intro w hw
  subst hw
  have hcm : grownCap w s.size 0 e ≤ 9223372036854775807 := by
    have hlt := Nat.mod_lt (w.tape w.drawn (.appendCap s.size 0 e)) (show 0 < 2 ^ 63 - s.size by omega)
    simp only [grownCap, Question.cut]
    omega
  have hcg : s.size ≤ grownCap w s.size 0 e := by simp [grownCap, Question.cut]
  have hrow : ∀ cap, s.size ≤ cap → (s.data.map (fun b => Value.int .u8 b.toNat) ++ Array.replicate (cap - s.size) (Value.int .u8 0)) = ((toL s).map (Value.int .u8) ++ List.replicate (cap - s.size) (Value.int .u8 0)).toArray := fun cap _ => by
    apply Array.ext'
    simp [toL]
  have hsz : ∀ cap, s.size ≤ cap → (((toL s).map (Value.int .u8) ++ List.replicate (cap - s.size) (Value.int .u8 0)).toArray).size = cap := fun cap hc => by
    simp [toL_len]; omega
  have hpush : ∀ (H : Heap) cs T n, (hfrz (H.push (.cells cs T (0, 0))) H.size n) = H.push (.cells cs T (n, n + 1)) := fun H cs T n => by
    apply Array.ext (by simp [hfrz])
    intro i h1 h2
    simp only [hfrz, Array.getElem_modify, Array.getElem_push]
    split
    · rename_i e; subst e; simp
    · rename_i e
      have h3 : i < H.size := by simp at h2; omega
      rw [dif_pos h3, dif_pos h3]
  have hc : (convert src dst (.string s)).run P w = .ok (.slice (some ⟨w.heap.size, 0, none⟩) s.size (grownCap w s.size 0 e)) { w with drawn := w.drawn + 1, heap := w.heap.push (.cells ((toL s).map (Value.int .u8) ++ List.replicate (grownCap w s.size 0 e - s.size) (Value.int .u8 0)).toArray e (grownCap w s.size 0 e, grownCap w s.size 0 e + 1)) } := by
    simp [convert, run_underlying hs, run_underlying hd, run_underlying he, Conv.stringToBytes, newRow, go_sem]
    rw [show ((Question.appendCap s.size 0 e).cut (w.tape w.drawn (Question.appendCap s.size 0 e))) = grownCap w s.size 0 e from rfl, hrow _ hcg]
    have r : (w.alloc (.cells ((toL s).map (Value.int .u8) ++ List.replicate (grownCap w s.size 0 e - s.size) (Value.int .u8 0)).toArray e)).drew.heap[w.heap.size]? = some (.cells ((toL s).map (Value.int .u8) ++ List.replicate (grownCap w s.size 0 e - s.size) (Value.int .u8 0)).toArray e (0, 0)) := push_new rfl
    rw [run_markS r (hsz _ hcg).symm]
    simp only [Result.andThen_ok]
    have := hpush w.heap ((toL s).map (Value.int .u8) ++ List.replicate (grownCap w s.size 0 e - s.size) (Value.int .u8 0)).toArray e (grownCap w s.size 0 e)
    rw [← this]; rfl
  simp only [execOp, hx, Sem.run_bind, hc, Result.andThen_ok, Sem.run_pure]
  exact ⟨⟨rfl, rfl, rfl, Nat.le_succ _, HG.push _ _⟩, hk _ _ _ rfl hcg hcm rfl⟩
end
end Go.Proofs.YthjehlocmikchaaDoor
