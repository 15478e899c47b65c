import Derived.Test.YthjehlocmikchaaDoorDvByt
import Derived.Test.YthjehlocmikchaaDoorDvSli
namespace Go.Proofs.YthjehlocmikchaaDoor
open Go
theorem HW_fz {h : Heap} {b o : Nat} {c : Array Value} {T : TypeId} {fr : Nat × Nat} (hr : h[b]? = some (.cells c T fr)) (hz : c.size ≤ fr.1 ∨ fr.2 ≤ fr.1) (ho : o < c.size) : HW h b o := ⟨c, T, fr, hr, ho, by omega⟩
def OwnF (k : Nat) (T : TypeId) (N : Nat) (h : Heap) (a : Option Addr) (c : Nat) : Prop :=
  (a = none ∧ c = 0) ∨ ∃ b o cs fr, a = some ⟨b, o, none⟩ ∧ N ≤ b ∧ h[b]? = some (.cells cs T fr) ∧ o + c * k ≤ cs.size ∧ (cs.size ≤ fr.1 ∨ fr.2 ≤ fr.1)
section
variable {α : Type} {E : Elt α} {h h' : Heap} {a : Option Addr} {c : Nat} {L : List α} {k : Nat} {T : TypeId} {N : Nat}
theorem Own.fz (w : Own k T N h a c) : OwnF k T N h a c := w.imp id fun ⟨b, o, cs, e, h1, h2, h3⟩ => ⟨b, o, cs, (0, 0), e, h1, h2, h3, .inr (Nat.le_refl _)⟩
theorem OwnF.nil (k : Nat) (T : TypeId) (N : Nat) (h : Heap) : OwnF k T N h none 0 := .inl ⟨rfl, rfl⟩
theorem OwnF.fr {S : Nat → Prop} (s : OwnF k T N h a c) (f : Fr S h h') (hn : ∀ b, blkA a b → ¬ S b) : OwnF k T N h' a c :=
  s.imp id fun ⟨b, o, cs, fr, e, h1, h2, h3, h4⟩ => ⟨b, o, cs, fr, e, h1, f.row h2 (hn b (blkA_of e)), h3, h4⟩
theorem OwnF.ext (s : OwnF k T N h a c) (f : Ext h h') : OwnF k T N h' a c := s.fr (f.fr (fun _ => False)) (fun _ _ h => h)
theorem OwnF.low (s : OwnF k T N h a c) {b : Nat} (hb : blkA a b) : N ≤ b ∧ b < h.size := by
  rcases s with ⟨e, _⟩ | ⟨b', o, cs, fr, e, h1, h2, h3, _⟩
  · rw [e] at hb; exact (blkA_none hb).elim
  · rw [e, blkA_some] at hb; subst hb; exact ⟨h1, row_lt h2⟩
theorem OwnF.down {N' : Nat} (s : OwnF k T N h a c) (hN : N' ≤ N) : OwnF k T N' h a c :=
  s.imp id fun ⟨b, o, cs, fr, e, h1, h2⟩ => ⟨b, o, cs, fr, e, Nat.le_trans hN h1, h2⟩
theorem OwnF.hsets (w : OwnF k T N h a c) (b o : Nat) (vs : List Value) : OwnF k T N (hsets h b o vs) a c := by
  rcases w with e | ⟨b', o', cs, fr, e, h1, h2, h3, h4⟩
  · exact .inl e
  · by_cases hb : b' = b
    · subst hb
      exact .inr ⟨b', o', _, fr, e, h1, hsets_row vs h2, by rw [sets_size]; exact h3, by rw [sets_size]; exact h4⟩
    · exact .inr ⟨b', o', cs, fr, e, h1, (hsets_ne vs hb).trans h2, h3, h4⟩
theorem OwnF.row {b o : Nat} (w : OwnF k T N h (some ⟨b, o, none⟩) c) : ∃ cs fr, h[b]? = some (.cells cs T fr) ∧ o + c * k ≤ cs.size ∧ N ≤ b ∧ (cs.size ≤ fr.1 ∨ fr.2 ≤ fr.1) := by
  rcases w with ⟨e, _⟩ | ⟨b', o', cs, fr, e, h1, h2, h3, h4⟩
  · cases e
  · cases e; exact ⟨cs, fr, h2, h3, h1, h4⟩
theorem app_src {P : Program} {t u : TypeId} {by_ : Nat} (A : AppT P t T E.k by_) {x : Value} {L2 : List α} (s : Sl E h a c L) (w : OwnF E.k T N h a c) (hN : N ≤ h.size) (hsz : (L.length + L2.length) * by_ ≤ 140737488355328)
    (room : ∀ {b o n c' : Nat} {K : Value → Heap → Prop}, n + L2.length ≤ c' → (∀ j, j < (L2.flatMap E.enc).length → HW h b (o + n * E.k + j)) → K (.slice (some ⟨b, o, none⟩) (n + L2.length) c') (Go.Proofs.YthjehlocmikchaaDoor.hsets h b (o + n * E.k) (L2.flatMap E.enc)) → HAppend P t u (.slice (some ⟨b, o, none⟩) n c') x h K)
    (zero : ∀ {a : Option Addr} {n c' : Nat} {K : Value → Heap → Prop}, L2 = [] → n ≤ c' → K (.slice a n c') h → HAppend P t u (.slice a n c') x h K)
    (grow : ∀ {a : Option Addr} {n c' : Nat} {z : Value} {zs olds : List Value} {K : Value → Heap → Prop}, zeroB P T z → z.cells = zs.toArray → Src h (.slice a n c') n E.k olds → c' < n + L2.length → (n + L2.length) * by_ ≤ 140737488355328 → n + L2.length ≤ 9223372036854775807 →
      (∀ b cap h', b = h.size → n + L2.length ≤ cap → cap ≤ 9223372036854775807 → h' = h.push (.cells (olds ++ L2.flatMap E.enc ++ (Builtin.zeroCells zs.toArray (cap - (n + L2.length))).toList).toArray T) → K (.slice (some ⟨b, 0, none⟩) (n + L2.length) cap) h') → HAppend P t u (.slice a n c') x h K)
    {K : Value → Heap → Prop}
    (hk : ∀ a' c' h', Fr (blkA a) h h' → Sl E h' a' c' (L ++ L2) → OwnF E.k T N h' a' c' → (∀ b, blkA a' b → blkA a b ∨ h.size ≤ b) → K (.slice a' (L.length + L2.length) c') h') :
    HAppend P t u (.slice a L.length c) x h K := by
  obtain ⟨hu, hz, hby, ⟨z, zs, hzv, hzc, hzl⟩, hb0⟩ := A
  by_cases hroom : L.length + L2.length ≤ c
  · rcases w with ⟨e1, e2⟩ | ⟨b, o, cs, fr, rfl, hlow, hr, hcs, hfz⟩
    · have e3 : L.length = 0 := by omega
      have e4 : L2.length = 0 := by omega
      have el : L = [] := List.length_eq_zero_iff.1 e3
      have el2 : L2 = [] := List.length_eq_zero_iff.1 e4
      subst el; subst el2; subst e1; subst e2
      exact zero rfl (Nat.le_refl _) (hk _ _ _ (Fr.refl _ _) (by simpa using s) (OwnF.nil _ _ _ _) (fun b hb => .inl hb))
    · have hfit : (L.length + L2.length) * E.k ≤ c * E.k := Nat.mul_le_mul_right _ hroom
      rw [Nat.add_mul] at hfit
      refine room hroom (fun j hj => HW_fz hr hfz ?_) ?_
      · rw [flat_len] at hj; omega
      have hrow : (Go.Proofs.YthjehlocmikchaaDoor.hsets h b (o + L.length * E.k) (L2.flatMap E.enc))[b]? = some (.cells (sets cs (o + L.length * E.k) (L2.flatMap E.enc)) T fr) := hsets_row _ hr
      have hget := sets_get (L2.flatMap E.enc) cs (o + L.length * E.k)
      refine hk _ _ _ (fr_hsets _ fun _ => blkA_of rfl) (Sl.of_row hrow (by simpa using hroom) fun j v hv => ?_) (.inr ⟨b, o, _, fr, rfl, hlow, hrow, by rw [sets_size]; exact hcs, by rw [sets_size]; exact hfz⟩) (fun b hb => .inl hb)
      rw [hget _ (by rw [flat_len]; omega)]
      rw [List.flatMap_append] at hv
      have hl1 := flat_len E L
      by_cases hj : j < L.length * E.k
      · rw [if_neg (by omega)]
        rw [List.getElem?_append_left (by omega)] at hv
        have := s.src.2
        rcases this with ⟨_, _, _, e⟩ | ⟨b', o', c', e, hc⟩
        · rw [e] at hj; omega
        · cases e
          have := hc j v hv
          rw [hcell_row hr] at this; exact this
      · rw [List.getElem?_append_right (by omega), hl1] at hv
        have h2 := (List.getElem?_eq_some_iff.1 hv).1
        rw [if_pos (by omega)]
        rw [show o + j - (o + L.length * E.k) = j - L.length * E.k by omega]; exact hv
  · have h47 : L.length + L2.length ≤ 140737488355328 := Nat.le_trans (Nat.le_mul_of_pos_right _ hb0) hsz
    refine grow hzv hzc s.src (by omega) hsz (by omega) ?_
    intro b cap h' eb h1 h2 eh
    have hrow := push_new (h := h) (o := .cells (L.flatMap E.enc ++ L2.flatMap E.enc ++ (Builtin.zeroCells zs.toArray (cap - (L.length + L2.length))).toList).toArray T) eb
    rw [← eh] at hrow
    have hx : Ext h h' := by rw [eh]; exact Ext.push _ _
    refine hk _ _ _ (hx.fr _) (Sl.of_row hrow (by simpa using h1) fun j v hv => ?_) (.inr ⟨b, 0, _, (0, 0), rfl, by omega, hrow, ?_, .inr (Nat.le_refl _)⟩) (fun b' hb' => .inr ?_)
    · rw [Nat.zero_add, List.getElem?_toArray, ← List.flatMap_append]
      rw [List.getElem?_append_left (List.getElem?_eq_some_iff.1 hv).1]; exact hv
    · have e1 := flat_len E L
      have e2 := flat_len E L2
      have e3 : (Builtin.zeroCells zs.toArray (cap - (L.length + L2.length))).size = (cap - (L.length + L2.length)) * E.k := by
        unfold Builtin.zeroCells; simp [hzl]
      have e4 : cap * E.k = (L.length + L2.length) * E.k + (cap - (L.length + L2.length)) * E.k := by rw [← Nat.add_mul]; congr 1; omega
      simp only [List.size_toArray, List.length_append, e1, e2, Array.length_toList, e3, Nat.zero_add, e4, Nat.add_mul]
      exact Nat.le_refl _
    · rw [blkA_some] at hb'; omega
theorem app_fz {P : Program} {t : TypeId} {by_ : Nat} (A : AppT P t T E.k by_) {a2 : Option Addr} {c2 : Nat} {L2 : List α} (s : Sl E h a c L) (w : OwnF E.k T N h a c) (s2 : Sl E h a2 c2 L2) (hN : N ≤ h.size) (hsz : (L.length + L2.length) * by_ ≤ 140737488355328) {K : Value → Heap → Prop}
    (hk : ∀ a' c' h', Fr (blkA a) h h' → Sl E h' a' c' (L ++ L2) → OwnF E.k T N h' a' c' → (∀ b, blkA a' b → blkA a b ∨ h.size ≤ b) → K (.slice a' (L.length + L2.length) c') h') :
    HAppend P t t (.slice a L.length c) (.slice a2 L2.length c2) h K :=
  app_src A s w hN hsz (fun hr hw hk => happ_room A.hu A.hz s2.src hr (flat_one E L2) hw hk) (fun e hn hk' => by subst e; exact happ_zero A.hu A.hz (by simpa using s2.src) hn hk')
    (fun hzv hzc hs hr h47 h63 hk => happ_grow A.hu A.hz A.hby hzv hzc hs s2.src hr h47 h63 hk) hk
theorem str_first {P : Program} {w : World} (s : ByteArray) : (Builtin.firstCells 1 s.size (.string s)).run P w = .ok ((toL s).map (Value.int .u8)).toArray w := by
  simp [Builtin.firstCells, go_sem, toL]
  apply Array.ext'
  simp
theorem str_len {P : Program} {w : World} (s : ByteArray) : (Builtin.lenOf (.string s)).run P w = .ok s.size w := by simp [Builtin.lenOf, go_sem]
theorem happS_room {P : Program} {h : Heap} {t u e : TypeId} (hu : P.underlying t = some (.slice e)) (hu2 : P.underlying u = some .string) (hz : szB P e = some 1) {b o n c : Nat} {s : ByteArray} (hroom : n + s.size ≤ c)
    (hW : ∀ j, j < s.size → HW h b (o + n * 1 + j)) {K : Value → Heap → Prop} (hk : K (.slice (some ⟨b, o, none⟩) (n + s.size) c) (Go.Proofs.YthjehlocmikchaaDoor.hsets h b (o + n * 1) ((toL s).map (Value.int .u8)))) : HAppend P t u (.slice (some ⟨b, o, none⟩) n c) (.string s) h K := by
  intro ty w hw
  subst hw
  refine ⟨_, { w with heap := Go.Proofs.YthjehlocmikchaaDoor.hsets w.heap b (o + n * 1) ((toL s).map (Value.int .u8)) }, ?_, ⟨rfl, rfl, rfl, Nat.le_refl _, HG.hsets _ _ _ _⟩, hk⟩
  have hst := run_storeCells (P := P) (b := b) (o := o + n * 1) ((toL s).map (Value.int .u8)) 0 w (fun v hv => by obtain ⟨x, _, rfl⟩ := List.mem_map.1 hv; rfl) (by simpa [toL_len] using hW)
  simp only [Nat.add_zero] at hst
  have hf := str_first (P := P) (w := w) s
  simp [Builtin.append_, run_underlying hu, run_underlying hu2, run_sizeOf hz, str_len, hroom, hf, add_lit]
  simp at hst
  rw [hst]; rfl
theorem happS_zero {P : Program} {h : Heap} {t u e : TypeId} (hu : P.underlying t = some (.slice e)) (hu2 : P.underlying u = some .string) (hz : szB P e = some 1) {a : Option Addr} {n c : Nat} {s : ByteArray} (hs : s.size = 0) (hn : n ≤ c) {K : Value → Heap → Prop} (hk : K (.slice a n c) h) : HAppend P t u (.slice a n c) (.string s) h K := by
  intro ty w hw
  subst hw
  refine ⟨_, w, ?_, Sim.refl _, hk⟩
  have hf := str_first (P := P) (w := w) s
  have ht : toL s = [] := List.eq_nil_of_length_eq_zero (by rw [toL_len]; exact hs)
  rw [hs, ht] at hf
  cases a <;> simp [Builtin.append_, run_underlying hu, run_underlying hu2, run_sizeOf hz, str_len, hs, hn, hf, storeCells]
theorem happS_grow {P : Program} {h : Heap} {t u e : TypeId} {by_ : Nat} {zs : List Value} {z : Value} (hu : P.underlying t = some (.slice e)) (hu2 : P.underlying u = some .string) (hz : szB P e = some 1) (hby : byB P e = some by_) (hzv : zeroB P e z) (hzc : z.cells = zs.toArray) {a : Option Addr} {n c : Nat} {s : ByteArray} {olds : List Value}
    (hs : Src h (.slice a n c) n 1 olds) (hroom : c < n + s.size) (h47 : (n + s.size) * by_ ≤ 140737488355328) (h63 : n + s.size ≤ 9223372036854775807) {K : Value → Heap → Prop}
    (hk : ∀ b cap h', b = h.size → n + s.size ≤ cap → cap ≤ 9223372036854775807 → h' = h.push (.cells (olds ++ (toL s).map (Value.int .u8) ++ (Builtin.zeroCells zs.toArray (cap - (n + s.size))).toList).toArray e) → K (.slice (some ⟨b, 0, none⟩) (n + s.size) cap) h') : HAppend P t u (.slice a n c) (.string s) h K := by
  intro ty w hw
  subst hw
  have hi : ∃ i, P.info? e = some i ∧ i.size = 1 ∧ i.bytes = by_ ∧ i.zero = some z := by
    unfold szB at hz; unfold byB at hby; unfold zeroB at hzv
    cases hi : P.info? e with
    | none => rw [hi] at hz; cases hz
    | some i => rw [hi] at hz hby hzv; exact ⟨i, rfl, by simpa using hz, by simpa using hby, by simpa using hzv⟩
  obtain ⟨i, hi, his, hib, hiz⟩ := hi
  have hfit : Builtin.nextslicecap (n + s.size) c * i.bytes ≤ 281474976710656 := by rw [hib]; exact growslice_fits hroom h47
  have hcm : grownCap w (n + s.size) c e ≤ 9223372036854775807 := by
    have hlt := Nat.mod_lt (w.tape w.drawn (.appendCap (n + s.size) c e)) (show 0 < 2 ^ 63 - (n + s.size) by omega)
    simp only [grownCap, Question.cut]
    omega
  have hcg : n + s.size ≤ grownCap w (n + s.size) c e := by simp [grownCap, Question.cut]
  refine ⟨.slice (some ⟨w.heap.size, 0, none⟩) (n + s.size) (grownCap w (n + s.size) c e), { w with drawn := w.drawn + 1, heap := w.heap.push (.cells (olds ++ (toL s).map (Value.int .u8) ++ (Builtin.zeroCells zs.toArray (grownCap w (n + s.size) c e - (n + s.size))).toList).toArray e) }, ?_, ⟨rfl, rfl, rfl, Nat.le_succ _, HG.push _ _⟩, hk _ _ _ rfl hcg hcm rfl⟩
  have hn : ¬ (n + s.size ≤ c) := by omega
  have h63' : ¬ (9223372036854775807 < ((n : Int) + (s.size : Int))) := by omega
  have h48' : ¬ (281474976710656 < Builtin.nextslicecap (n + s.size) c * i.bytes) := by omega
  have hf := str_first (P := P) (w := w.drew) s
  have hfo := Src.first (P := P) (w := w.drew) (x := .slice a n c) (m := n) (size := 1) (news := olds) hs
  simp [Builtin.append_, run_underlying hu, run_underlying hu2, sizeOf, typeInfo, zeroValue, hi, hiz, str_len, hn, h63', h48', Question.forced, his, hf, hfo, newRow, grownCap]
  rw [hzc]
  generalize Builtin.zeroCells zs.toArray _ = Z
  have e1 : olds.toArray ++ (((toL s).map (Value.int .u8)).toArray ++ Z) = (olds ++ ((toL s).map (Value.int .u8) ++ Z.toList)).toArray := by apply Array.ext'; simp
  rw [← e1]
  rfl
theorem flatB (L : List Int) : L.flatMap eB.enc = L.map (Value.int .u8) := by
  induction L with
  | nil => rfl
  | cons x L ih => rw [List.flatMap_cons, ih]; rfl
theorem app_str {P : Program} {h : Heap} {a : Option Addr} {c : Nat} {L : List Int} {T : TypeId} {N : Nat} {t u : TypeId} {by_ : Nat} (A : AppT P t T eB.k by_) (hu2 : P.underlying u = some .string) {x : ByteArray} (s : Sl eB h a c L) (w : OwnF eB.k T N h a c) (hN : N ≤ h.size) (hsz : (L.length + x.size) * by_ ≤ 140737488355328) {K : Value → Heap → Prop}
    (hk : ∀ a' c' h', Fr (blkA a) h h' → Sl eB h' a' c' (L ++ toL x) → OwnF eB.k T N h' a' c' → (∀ b, blkA a' b → blkA a b ∨ h.size ≤ b) → K (.slice a' (L.length + x.size) c') h') :
    HAppend P t u (.slice a L.length c) (.string x) h K := by
  have hl := toL_len x
  refine app_src A (L2 := toL x) s w hN (by rw [hl]; exact hsz) (fun hr hw hk => ?_) (fun e hn hk' => ?_) (fun hzv hzc hs hr h47 h63 hk => ?_) (by rw [hl]; exact hk)
  · rw [hl] at hr hk
    rw [flatB] at hk hw
    exact happS_room A.hu hu2 A.hz hr (fun j hj => hw j (by rw [List.length_map, hl]; exact hj)) hk
  · exact happS_zero A.hu hu2 A.hz (by rw [← hl, e]; rfl) hn hk'
  · rw [hl] at hr h47 h63 hk
    rw [flatB] at hk
    exact happS_grow A.hu hu2 A.hz A.hby hzv hzc hs hr h47 h63 hk
end
def HCopy (P : Program) (t u : TypeId) (s x : Value) (h : Heap) (K : Value → Heap → Prop) : Prop :=
  ∀ (ty : TypeId) (w : World), w.heap = h → ∃ v w', (Builtin.copy_ #[t, u] ty #[s, x]).run P w = .ok v w' ∧ Sim w w' ∧ K v w'.heap
theorem HCopy.mono {P : Program} {t u : TypeId} {s x : Value} {h : Heap} {K K' : Value → Heap → Prop} (ha : HCopy P t u s x h K) (hk : ∀ v h', K v h' → K' v h') : HCopy P t u s x h K' :=
  fun ty w hw => let ⟨v, w', h1, h2, h3⟩ := ha ty w hw; ⟨v, w', h1, h2, hk _ _ h3⟩
theorem hs_copy {P : Program} {ρ : Regs} {h : Heap} {d : Option Nat} {ty : TypeId} {p : String} {af : Array Edge} {g : Option (Nat × Bool)} {t u : TypeId} {x y : Operand} {vx vy : Value} {K : Value → Heap → Prop} (hx : ev ρ x = vx) (hy : ev ρ y = vy) (ha : HCopy P t u vx vy h K) :
    HStep P ρ ⟨d, .call ⟨.builtin .copy, #[x, y], #[t, u]⟩, ty, p, af, g⟩ h K := by
  intro w hw
  obtain ⟨v, w', h1, h2, h3⟩ := ha ty w hw
  have : (execOp (ev ρ) ⟨d, .call ⟨.builtin .copy, #[x, y], #[t, u]⟩, ty, p, af, g⟩).run P w = .ok (.value v) w' := by
    simp only [execOp, resolve, invoke, builtin, Sem.run_bind, Sem.run_pure, Result.andThen_ok, List.map_toArray, List.map_cons, List.map_nil, hx, hy, h1]
  rw [this]
  exact ⟨h2, h3⟩
theorem hcopy_of {P : Program} {h : Heap} {t u e : TypeId} {size n c m c2 q : Nat} {a a2 : Option Addr} {cs : List Value} (hu : P.underlying t = some (.slice e)) (hz : szB P e = some size) (hq : q = Nat.min m n) (hl : cs.length = q * size) (hone : ∀ v ∈ cs, oneC v = true)
    (hr : cs = [] ∨ ∃ b o, a2 = some ⟨b, o, none⟩ ∧ HCells h b o cs) (hw : cs = [] ∨ ∃ b o, a = some ⟨b, o, none⟩ ∧ HWs h b o cs.length) {K : Value → Heap → Prop}
    (hk : ∀ h', (cs = [] → h' = h) → (∀ b o, a = some ⟨b, o, none⟩ → h' = hsets h b o cs) → K (.int .i64 q) h') : HCopy P t u (.slice a n c) (.slice a2 m c2) h K := by
  intro ty w hwd
  subst hwd
  have hf : (Builtin.firstCells size q (.slice a2 m c2)).run P w = .ok cs.toArray w := by
    cases a2 with
    | none =>
      have : cs = [] := by rcases hr with e | ⟨b, o, e, _⟩; exact e; cases e
      subst this
      simp [Builtin.firstCells, go_sem]
    | some ad =>
      have h1 : (loadCells ad (q * size)).run P w = .ok cs.toArray w := by
        rcases hr with e | ⟨b, o, e, hc⟩
        · subst e
          have : q * size = 0 := by rw [← hl]; rfl
          rw [this]; simp [loadCells, loadCellsFrom, go_sem]
        · cases e
          have := run_loadFrom (P := P) w b o cs 0 #[] hc
          simp only [Array.empty_append, hl] at this
          exact this
      simp only [Builtin.firstCells, h1]
  have hlen : (Builtin.lenOf (.slice a2 m c2)).run P w = .ok m w := by simp [Builtin.lenOf, go_sem]
  cases a with
  | none =>
    have : cs = [] := by rcases hw with e | ⟨b, o, e, _⟩; exact e; cases e
    refine ⟨_, w, ?_, Sim.refl _, hk w.heap (fun _ => rfl) fun b o e => by cases e⟩
    simp [Builtin.copy_, run_underlying hu, run_sizeOf hz, hlen, ← hq, hf, goInt]
  | some ad =>
    rcases hw with e | ⟨b, o, e, hW⟩
    · refine ⟨_, w, ?_, Sim.refl _, hk w.heap (fun _ => rfl) fun b o _ => by subst e; rfl⟩
      subst e
      simp [Builtin.copy_, run_underlying hu, run_sizeOf hz, hlen, ← hq, hf, goInt, storeCells]
    · cases e
      have hst := run_storeCells (P := P) (b := b) (o := o) cs 0 w hone (fun j hj => hW j hj)
      simp only [Nat.add_zero] at hst
      refine ⟨_, { w with heap := hsets w.heap b o cs }, ?_, ⟨rfl, rfl, rfl, Nat.le_refl _, HG.hsets _ _ _ _⟩, hk _ (fun e => by subst e; rfl) fun b' o' e => by cases e; rfl⟩
      simp [Builtin.copy_, run_underlying hu, run_sizeOf hz, hlen, ← hq, hf, goInt, hst]
end Go.Proofs.YthjehlocmikchaaDoor
