import Derived.Test.YthjehlocmikchaaDoorDvS2
namespace Go.Proofs.YthjehlocmikchaaDoor
namespace Sc
open Go
structure Rc where
 kind : Int
 ver : Int
 key : ByteArray
 val : ByteArray
abbrev Rc.v (r : Rc) : Value := .agg #[.int .i64 r.kind, .int .u64 r.ver, .string r.key, .string r.val]
def kindOk (r : Rc) : Prop := r.kind = 1 ∨ (r.kind = 2 ∧ r.val.size = 0)
instance (r : Rc) : Decidable (kindOk r) := by unfold kindOk; infer_instance
def encE (g : Geo) (r : Rc) : Int := if ¬ Gok g then 20 else if ¬ kindOk r then 52 else szE g r.key.size r.val.size
def recA (salt : Int) (r : Rc) : List Int := [r.kind, 0] ++ leb 2 r.key.size ++ leb 4 r.val.size ++ leb 8 r.ver ++ leb 4 salt
def body (r : Rc) : List Int := toL r.key ++ toL r.val
def encR (salt : Int) (r : Rc) : List Int := recA salt r ++ leb 4 (crc 0 (recA salt r ++ body r)) ++ body r
theorem toL_app (a b : ByteArray) : toL (a ++ b) = toL a ++ toL b := by
 unfold toL
 rw [← List.map_append]
 congr 1
theorem body_isB (r : Rc) : isB (body r) := isB_app (toL_isB _) (toL_isB _)
theorem recA_isB {salt : Int} {r : Rc} (k : kindOk r) : isB (recA salt r) := by
 unfold recA
 refine isB_app (isB_app (isB_app (isB_app ?_ (leb_isB _ _)) (leb_isB _ _)) (leb_isB _ _)) (leb_isB _ _)
 intro y hy
 simp only [List.mem_cons, List.not_mem_nil, or_false] at hy
 rcases k with k | k <;> omega
theorem encR_isB {salt : Int} {r : Rc} (k : kindOk r) : isB (encR salt r) := isB_app (isB_app (recA_isB k) (leb_isB _ _)) (body_isB r)
theorem recA_len (salt : Int) (r : Rc) : (recA salt r).length = 20 := by simp [recA, leb_len]
theorem body_len (r : Rc) : (body r).length = r.key.size + r.val.size := by simp [body, toL_len]
theorem encR_len (salt : Int) (r : Rc) : (encR salt r).length = 24 + r.key.size + r.val.size := by
 unfold encR
 rw [List.length_append, List.length_append, recA_len, leb_len, body_len]; omega
def TellR (g : Geo) (salt : Int) (r : Rc) (h : Heap) (v : Value) (h' : Heap) : Prop := Ext h h' ∧
 if encE g r = 0 then ∃ a c, v = .tuple #[.slice a (encR salt r).length c, .int .i64 0] ∧ Sl eB h' a c (encR salt r) else v = .tuple #[.slice none 0 0, .int .i64 (encE g r)]
theorem tellR_no {g : Geo} {salt : Int} {r : Rc} {h h' : Heap} {e : Int} (h1 : encE g r = e) (he : e ≠ 0) (x : Ext h h') : TellR g salt r h (.tuple #[.slice none 0 0, .int .i64 e]) h' := ⟨x, by rw [h1, if_neg he]⟩
theorem tellR_ok {g : Geo} {salt : Int} {r : Rc} {h h' : Heap} {a : Option Addr} {c n : Nat} (h1 : encE g r = 0) (x : Ext h h') (s : Sl eB h' a c (encR salt r)) (hn : n = (encR salt r).length) : TellR g salt r h (.tuple #[.slice a n c, .int .i64 0]) h' := ⟨x, by rw [if_pos h1]; exact ⟨a, c, by rw [hn], s⟩⟩
theorem size0 (b : ByteArray) : b = ByteArray.empty ↔ b.size = 0 := by
 constructor
 ·rintro rfl; rfl
 ·intro h; apply ba_ext; exact (List.eq_nil_of_length_eq_zero (by rw [Array.length_toList]; exact h)).trans rfl
theorem kind_b (k : Int) (p : Prop) [Decidable p] : (bif k != 1 then (k != 2) || ((k == 2) && (!decide p)) else (k == 2) && (!decide p)) = !decide (k = 1 ∨ (k = 2 ∧ p)) := by
 by_cases h1 : k = 1
 ·subst h1; simp
 ·by_cases h2 : k = 2
  ·subst h2; simp
  ·simp [h1, h2]
theorem kind_m {k : Int} {v : ByteArray} {r : Rc} (e1 : r.kind = k) (e2 : r.val = v) : (bif k != 1 then (k != 2) || ((k == 2) && (!decide (v = ByteArray.empty))) else (k == 2) && (!decide (v = ByteArray.empty))) = !decide (kindOk r) := by
 subst e1; subst e2
 unfold kindOk
 have h4 : decide (r.val = ByteArray.empty) = decide (r.val.size = 0) := by rw [Bool.eq_iff_iff]; simp only [decide_eq_true_eq]; exact size0 r.val
 rw [h4]
 exact kind_b r.kind (r.val.size = 0)
theorem kind_r {k : Int} {v : ByteArray} {r : Rc} (e1 : r.kind = k) (e2 : r.val = v) : (bif k != 1 then (k != 2) || ((k == 2) && (decide ((v.size : Int) > 0))) else (k == 2) && (decide ((v.size : Int) > 0))) = !decide (kindOk r) := by
 subst e1; subst e2
 unfold kindOk
 have h4 : decide ((r.val.size : Int) > 0) = !decide (r.val.size = 0) := by rw [Bool.eq_iff_iff]; simp only [decide_eq_true_eq, Bool.not_eq_true', decide_eq_false_iff_not]; omega
 rw [h4]
 exact kind_b r.kind (r.val.size = 0)
theorem sz_bounds {g : Geo} {k v : Int} (h : szE g k v = 0) : Gok g ∧ 1 ≤ k ∧ k ≤ 255 ∧ 0 ≤ v ∧ v ≤ 262144 ∧ 24 + k + v ≤ roomOf g := by
 unfold szE at h
 split at h
 ·cases h
 ·rename_i hg
  have hg := Decidable.not_not.1 hg
  have b := ok_bounds hg
  have f := fst_bounds hg
  have hr : roomOf g = g.sz - 24 - fst0 g := rfl
  split at h
  ·cases h
  ·split at h
   ·cases h
   ·exact ⟨hg, by omega, by omega, by omega, by omega, by omega⟩
section
variable {h : Heap}
theorem app_so {a : Option Addr} {c N : Nat} {L : List Int} {x : ByteArray} (s : Sl eB h a c L) (w : OwnF eB.k tB N h a c) (hN : N ≤ h.size) (hl : L.length + x.size ≤ 1073741824) {K : Value → Heap → Prop}
  (hk : ∀ v h', Fr (fun b => N ≤ b) h h' → Ob N h' v (L ++ toL x) → K v h') : HAppend Tryd.prog 25 9 (.slice a L.length c) (.string x) h K :=
 app_str aB (by kernel_rfl) s w hN (by omega) fun a' c' h' f s' w' _ => hk _ h' (f.mono fun _ _ q => (w.low q).1) ⟨a', c', by simp [toL_len], s', w'⟩
set_option maxHeartbeats 3200000 in
theorem encode_m (g : Geo) {salt : Int} (hs : U32 salt) (r : Rc) (h : Heap) : HC Tryd.prog 86 #[g.v, .int .u32 salt, r.v] h fun v h' => TellR g salt r h v h' := by
 refine f86_sh _ _ _ _ _ _ _ _ _ _ _ fun gb rb h2 lo1 lt1 lo2 lt2 x2 => (check_m g h2).mono ?_
 rintro _ h3 ⟨rfl, x3⟩
 have x23 := x2.trans x3
 by_cases hn : ¬ Gok g
 ·rw [if_neg hn]
  exact ⟨x3, _, rfl, fun _ => tellR_no (by unfold encE; rw [if_pos hn]) (by decide) x23, fun e => by simp at e⟩
 have hg : Gok g := Decidable.not_not.1 hn
 rw [if_pos hg, kind_m (r := r) rfl rfl]
 refine ⟨x3, _, rfl, fun e => by simp at e, fun _ => ⟨fun e => ?_, fun e => ?_⟩⟩
 ·have hk : ¬ kindOk r := by simpa using e
  exact tellR_no (by unfold encE; rw [if_neg hn, if_pos hk]) (by decide) x23
 have hk : kindOk r := by simpa using e
 have eE : encE g r = szE g r.key.size r.val.size := by unfold encE; rw [if_neg hn, if_neg (fun q => q hk)]
 refine (size_m g _ _ h3).mono ?_
 rintro _ h4 ⟨rfl, x4⟩
 have x24 := x23.trans x4
 refine ⟨x4, _, _, rfl, fun e => ?_, fun e => ?_⟩
 ·have : szE g r.key.size r.val.size ≠ 0 := by simpa using e
  exact tellR_no eE this x24
 have hz : szE g r.key.size r.val.size = 0 := by simpa using e
 obtain ⟨_, k1, k2, v1, v2, _⟩ := sz_bounds hz
 have hkv : 0 ≤ r.kind ∧ r.kind < 256 := by rcases hk with q | q <;> omega
 rw [wrap8 hkv]
 intro nb h5 e5 eh5
 have x5 : Ext h4 h5 := by rw [eh5]; exact Ext.push _ _
 have r5 : h5[nb]? = some (.cells (([r.kind, 0] : List Int).flatMap eB.enc).toArray tB (0, 0)) := by rw [eh5]; exact push_new e5
 clear eh5
 have s2 := x2.size
 have s3 := x3.size
 have s4 := x4.size
 have s5 := x5.size
 have kp : ∀ {ha hb' : Heap} (f : Fr (fun b => h4.size ≤ b) ha hb'), Kp [rb] ha hb' := fun f => f.kp fun b hb q => by simp at hb; omega
 rw [wu64 (x := (r.key.size : Int)) (by omega) (by omega), wu64 (x := (r.val.size : Int)) (by omega) (by omega), wu64 (x := salt) hs.1 (by have := hs.2; omega)]
 refine (put_o (L := [r.kind, 0]) (N := h4.size) (Sl.lit (L := [r.kind, 0]) r5) (Own.lit (L := [r.kind, 0]) r5 (by omega)).fz s5 (by simp) _ 2 (by decide)).mono ?_
 rintro _ h6 ⟨f6, a6, c6, rfl, s6, w6⟩
 have t6 := f6.size
 refine ⟨kp f6, _, _, _, rfl, (put_o s6 w6 (by omega) (by simp [leb_len]) _ 4 (by decide)).mono ?_⟩
 rintro _ h7 ⟨f7, a7, c7, rfl, s7, w7⟩
 have t7 := f7.size
 refine ⟨kp f7, _, _, _, rfl, (put_o s7 w7 (by omega) (by simp [leb_len]) _ 8 (by decide)).mono ?_⟩
 rintro _ h8 ⟨f8, a8, c8, rfl, s8, w8⟩
 have t8 := f8.size
 refine ⟨kp f8, _, _, _, rfl, (put_o s8 w8 (by omega) (by simp [leb_len]) _ 4 (by decide)).mono ?_⟩
 rintro _ h9 ⟨f9, a9, c9, rfl, s9, w9⟩
 have t9 := f9.size
 have eA : [r.kind, 0] ++ leb 2 r.key.size ++ leb 4 r.val.size ++ leb 8 r.ver ++ leb 4 salt = recA salt r := rfl
 rw [eA] at s9 ⊢
 have hbody : toL (r.key ++ r.val) = body r := toL_app _ _
 have hbs : (r.key ++ r.val).size = r.key.size + r.val.size := by rw [← toL_len, hbody, body_len]
 refine ⟨kp f9, _, _, _, rfl, by omega, _, crc_m s9 (recA_isB hk) (by rw [recA_len]; decide), by rw [hbs]; omega, fun nb1 cap h10 e10 hc1 hc2 eh10 => ?_⟩
 have x10 : Ext h9 h10 := by rw [eh10]; exact Ext.push _ _
 have r10 := push_new (h := h9) (o := .cells ((toL (r.key ++ r.val)).map (Value.int .u8) ++ List.replicate (cap - (r.key ++ r.val).size) (Value.int .u8 0)).toArray 5 (cap, cap + 1)) e10
 rw [← eh10] at r10
 clear eh10
 have s10 : Sl eB h10 (some ⟨nb1, 0, none⟩) cap (body r) := by
  refine Sl.of_row r10 (by rw [body_len, ← hbs]; exact hc1) fun j v hv => ?_
  rw [flatB] at hv
  rw [Nat.zero_add, List.getElem?_toArray, hbody, List.getElem?_append_left (List.getElem?_eq_some_iff.1 hv).1]; exact hv
 have u := crc32 (crc 0 (recA salt r)) (body r)
 rw [crc_app] at u
 have he := ext_m s10 (body_isB r) (by rw [body_len]; omega) (crc 0 (recA salt r))
 rw [crc_app, body_len, ← hbs] at he
 refine ⟨_, he, ?_⟩
 rw [wu64 (x := crc 0 (recA salt r ++ body r)) u.1 (by have := u.2; omega)]
 refine (put_o (s9.ext x10) (w9.ext x10) (by have := x10.size; omega) (by rw [recA_len]; decide) _ 4 (by decide)).mono ?_
 rintro _ h11 ⟨f11, a11, c11, rfl, s11, w11⟩
 have t10 := x10.size
 have t11 := f11.size
 refine ⟨_, _, _, rfl, app_so s11 w11 (by omega) (by rw [List.length_append, recA_len, leb_len, hbs]; omega) ?_⟩
 rintro _ h12 f12 ⟨a12, c12, rfl, s12, w12⟩
 rw [hbody] at s12
 refine ⟨_, _, _, rfl, tellR_ok (eE.trans hz) ?_ s12 (by rw [hbody]; rfl)⟩
 have F : Fr (fun b => h4.size ≤ b) h4 h12 := (((((((x5.fr _).trans f6 fun _ _ q => q).trans f7 fun _ _ q => q).trans f8 fun _ _ q => q).trans f9 fun _ _ q => q).trans (x10.fr (fun _ => False)) fun _ _ q => q.elim).trans f11 fun _ _ q => q).trans f12 fun _ _ q => q
 exact ((x24.fr _).trans F fun _ _ q => q).ext fun b hb q => by omega
end
end Sc
end Go.Proofs.YthjehlocmikchaaDoor
namespace Go.Proofs.YthjehlocmikchaaDoor
namespace Sc
open Go
set_option maxHeartbeats 3200000 in
theorem encode_r (g : Geo) {salt : Int} (hs : U32 salt) (r : Rc) (hv : 0 ≤ r.ver ∧ r.ver < 18446744073709551616) (h : Heap) : HC Tryd.prog 46 #[g.v, .int .u32 salt, r.v] h fun v h' => TellR g salt r h v h' := by
 refine f46_sh _ _ _ _ _ _ _ _ _ _ _ fun gb rb h2 lo1 lt1 lo2 lt2 x2 => (check_r g h2).mono ?_
 rintro _ h3 ⟨rfl, x3⟩
 have x23 := x2.trans x3
 by_cases hn : ¬ Gok g
 ·rw [if_neg hn]
  exact ⟨x3, _, rfl, fun _ => tellR_no (by unfold encE; rw [if_pos hn]) (by decide) x23, fun e => by simp at e⟩
 have hg : Gok g := Decidable.not_not.1 hn
 rw [if_pos hg, kind_r (r := r) rfl rfl]
 refine ⟨x3, _, rfl, fun e => by simp at e, fun _ => ⟨fun e => ?_, fun e => ?_⟩⟩
 ·have hk : ¬ kindOk r := by simpa using e
  exact tellR_no (by unfold encE; rw [if_neg hn, if_pos hk]) (by decide) x23
 have hk : kindOk r := by simpa using e
 have eE : encE g r = szE g r.key.size r.val.size := by unfold encE; rw [if_neg hn, if_neg (fun q => q hk)]
 refine (size_r g _ _ h3).mono ?_
 rintro _ h4 ⟨rfl, x4⟩
 have x24 := x23.trans x4
 refine ⟨x4, _, _, rfl, fun e => ?_, fun e => ?_⟩
 ·have : szE g r.key.size r.val.size ≠ 0 := by simpa using e
  exact tellR_no eE this x24
 have hz : szE g r.key.size r.val.size = 0 := by simpa using e
 obtain ⟨_, k1, k2, v1, v2, _⟩ := sz_bounds hz
 have hkv : 0 ≤ r.kind ∧ r.kind < 256 := by rcases hk with q | q <;> omega
 rw [wrap8 hkv]
 intro nb h5 e5 eh5
 have x5 : Ext h4 h5 := by rw [eh5]; exact Ext.push _ _
 have r5 : h5[nb]? = some (.cells (([r.kind, 0] : List Int).flatMap eB.enc).toArray tB (0, 0)) := by rw [eh5]; exact push_new e5
 clear eh5
 have s2 := x2.size
 have s3 := x3.size
 have s4 := x4.size
 have s5 := x5.size
 let T : Heap → Heap → Prop := Fr fun b => h4.size ≤ b
 have kp : ∀ {ha hb' : Heap} (f : Fr (fun b => h4.size ≤ b) ha hb'), Kp [rb] ha hb' := fun f => f.kp fun b hb q => by simp at hb; omega
 rw [wu64 (x := (r.key.size : Int)) (by omega) (by omega), wu64 (x := (r.val.size : Int)) (by omega) (by omega), wu64 (x := salt) hs.1 (by have := hs.2; omega)]
 refine ⟨T, fit_frm _, fun hx f => kp f, fun hx f => kp f, (low_o (L := [r.kind, 0]) (N := h4.size) (Sl.lit (L := [r.kind, 0]) r5) (Own.lit (L := [r.kind, 0]) r5 (by omega)).fz s5 (by simp) ⟨by omega, by omega⟩ 2 (by decide)).mono ?_⟩
 rintro _ h6 ⟨f6, a6, c6, rfl, s6, w6⟩
 have t6 := f6.size
 refine ⟨f6, kp f6, _, _, _, rfl, (low_o s6 w6 (by omega) (by simp [leb_len]) ⟨by omega, by omega⟩ 4 (by decide)).mono ?_⟩
 rintro _ h7 ⟨f7, a7, c7, rfl, s7, w7⟩
 have t7 := f7.size
 refine ⟨f7, kp f7, _, _, _, rfl, (low_o s7 w7 (by omega) (by simp [leb_len]) hv 8 (by decide)).mono ?_⟩
 rintro _ h8 ⟨f8, a8, c8, rfl, s8, w8⟩
 have t8 := f8.size
 refine ⟨kp f8, _, _, _, rfl, (low_o s8 w8 (by omega) (by simp [leb_len]) ⟨hs.1, by have := hs.2; omega⟩ 4 (by decide)).mono ?_⟩
 rintro _ h9 ⟨f9, a9, c9, rfl, s9, w9⟩
 have t9 := f9.size
 have eA : [r.kind, 0] ++ leb 2 r.key.size ++ leb 4 r.val.size ++ leb 8 r.ver ++ leb 4 salt = recA salt r := rfl
 rw [eA] at s9 ⊢
 refine ⟨kp f9, _, _, _, rfl, T, fit_frm _, fun hx f => kp f, fun hx f => kp f, fun nb1 h10 e10 eh10 => ?_⟩
 have x10 : Ext h9 h10 := by rw [eh10]; exact Ext.push _ _
 have r10 : h10[nb1]? = some (.cells (([] : List Int).flatMap eB.enc).toArray tB (0, 0)) := by rw [eh10]; exact push_new e10
 clear eh10
 have t10 := x10.size
 refine app_o (L := []) (N := h9.size) (Sl.lit (L := []) r10) (Own.lit (L := []) r10 (by omega)).fz (s9.ext x10) (by omega) (by rw [recA_len]; decide) ?_
 rintro _ h11 f11 ⟨a11, c11, rfl, s11, w11⟩
 have t11 := f11.size
 have f11' : Fr (fun b => h4.size ≤ b) h10 h11 := f11.mono fun b _ q => by omega
 have hks : r.key.size ≤ 255 := by omega
 have hvs : r.val.size ≤ 262144 := by omega
 refine ⟨f11', kp f11', _, _, _, rfl, app_so s11 w11 (by omega) (by rw [List.length_append, recA_len]; simp; omega) ?_⟩
 rintro _ h12 f12 ⟨a12, c12, rfl, s12, w12⟩
 have t12 := f12.size
 have f12' : Fr (fun b => h4.size ≤ b) h11 h12 := f12.mono fun b _ q => by omega
 refine ⟨f12', kp f12', _, _, _, rfl, app_so s12 w12 (by omega) (by rw [List.length_append, List.length_append, recA_len, toL_len]; simp; omega) ?_⟩
 rintro _ h13 f13 ⟨a13, c13, rfl, s13, w13⟩
 have t13 := f13.size
 have f13' : Fr (fun b => h4.size ≤ b) h12 h13 := f13.mono fun b _ q => by omega
 have eB' : [] ++ recA salt r ++ toL r.key ++ toL r.val = recA salt r ++ body r := by simp [body]
 rw [eB'] at s13 ⊢
 have hB : isB (recA salt r ++ body r) := isB_app (recA_isB hk) (body_isB r)
 have u := crc32 0 (recA salt r ++ body r)
 refine ⟨kp f13', _, _, _, rfl, _, crc_r s13 hB (by rw [List.length_append, recA_len, body_len]; omega), ?_⟩
 rw [wu64 (x := crc 0 (recA salt r ++ body r)) u.1 (by have := u.2; omega)]
 -- the first part lies where it lay
 have low9 : ∀ b, blkA a9 b → b < h9.size := fun b g => (w9.low g).2
 have F913 : Fr (fun b => h9.size ≤ b) h9 h13 := (((x10.fr _).trans f11 fun _ _ q => q).trans f12 fun _ _ q => q).trans f13 fun _ _ q => q
 have s9' := s9.fr F913 fun b g q => by have := low9 b g; omega
 have w9' := w9.fr F913 fun b g q => by have := low9 b g; omega
 refine (low_o s9' w9' (by omega) (by rw [recA_len]; decide) ⟨u.1, by have := u.2; omega⟩ 4 (by decide)).mono ?_
 rintro _ h14 ⟨f14, a14, c14, rfl, s14, w14⟩
 have t14 := f14.size
 refine ⟨kp f14, _, _, _, rfl, T, fit_frm _, fun hx f => kp f, app_so s14 w14 (by omega) (by rw [List.length_append, recA_len, leb_len]; omega) ?_⟩
 rintro _ h15 f15 ⟨a15, c15, rfl, s15, w15⟩
 have t15 := f15.size
 refine ⟨f15, kp f15, _, _, _, rfl, app_so s15 w15 (by omega) (by rw [List.length_append, List.length_append, recA_len, leb_len, toL_len]; omega) ?_⟩
 rintro _ h16 f16 ⟨a16, c16, rfl, s16, w16⟩
 have eR : recA salt r ++ leb 4 (crc 0 (recA salt r ++ body r)) ++ toL r.key ++ toL r.val = encR salt r := by unfold encR body; simp only [List.append_assoc]
 rw [eR] at s16 ⊢
 refine ⟨_, _, _, rfl, tellR_ok (eE.trans hz) ?_ s16 rfl⟩
 have F1 : Fr (fun b => h4.size ≤ b) h4 h9 := (((((x5.fr _).trans f6 fun _ _ q => q).trans f7 fun _ _ q => q).trans f8 fun _ _ q => q).trans f9 fun _ _ q => q)
 have F2 : Fr (fun b => h4.size ≤ b) h4 h16 := (((F1.trans F913 fun b _ q => by omega).trans f14 fun _ _ q => q).trans f15 fun _ _ q => q).trans f16 fun _ _ q => q
 exact ((x24.fr _).trans F2 fun _ _ q => q).ext fun b hb q => by omega
end Sc
end Go.Proofs.YthjehlocmikchaaDoor
namespace Go.Proofs.YthjehlocmikchaaDoor
namespace Sc
open Go
def kL (R : List Int) : Nat := (le ((R.drop 2).take 2)).toNat
def vL (R : List Int) : Nat := (le ((R.drop 4).take 4)).toNat
def szR (R : List Int) : Nat := 24 + kL R + vL R
def rcOf (R : List Int) : Rc := ⟨R.getD 0 0, le ((R.drop 8).take 8), ofL ((R.drop 24).take (kL R)), ofL ((R.drop (24 + kL R)).take (vL R))⟩
def begOk (R : List Int) : Prop := 24 ≤ R.length ∧ szR R ≤ R.length
instance (R : List Int) : Decidable (begOk R) := by unfold begOk; infer_instance
abbrev z4 : Rc := ⟨0, 0, ByteArray.empty, ByteArray.empty⟩
def tellB (R : List Int) : Value := if begOk R then .tuple #[(rcOf R).v, .int .i64 (szR R), .bool true] else .tuple #[z4.v, .int .i64 0, .bool false]
theorem kL_eq {R : List Int} (hb : isB R) : le ((R.drop 2).take 2) = (kL R : Int) ∧ kL R < 65536 := by
 have h1 := le_nonneg (isB_take (isB_drop hb 2) 2)
 have h2 : ((R.drop 2).take 2).length ≤ 2 := by simp; omega
 have h3 : (256 : Int) ^ ((R.drop 2).take 2).length ≤ 256 ^ 2 := by
  rw [pow256, pow256]
  have : 2 ^ (8 * ((R.drop 2).take 2).length) ≤ 2 ^ (8 * 2) := Nat.pow_le_pow_right (by decide) (by omega)
  omega
 have h4 : (256 : Int) ^ 2 = 65536 := by decide
 unfold kL; omega
theorem vL_eq {R : List Int} (hb : isB R) : le ((R.drop 4).take 4) = (vL R : Int) ∧ vL R < 4294967296 := by
 have h1 := le_u32 (L := (R.drop 4).take 4) (isB_take (isB_drop hb 4) 4) (by simp; omega)
 unfold vL; omega
section
variable {h : Heap} {a : Option Addr} {c : Nat} {R : List Int}
theorem byt_cut (s : Sl eB h a c R) {l r : Nat} (hlr : l ≤ r) (hr : r ≤ R.length) {n : Nat} (hn : n = r - l) : Byt h (slA a l 1 c) n ((R.drop l).take n) := by
 subst hn
 have s1 := s.cut hlr hr
 have e : (R.take r).drop l = (R.drop l).take (r - l) := List.drop_take
 rw [e] at s1
 have := s1.byt
 have el : ((R.drop l).take (r - l)).length = r - l := by simp; omega
 rw [el] at this; exact this
theorem begun_m (s : Sl eB h a c R) (hb : isB R) (hl : R.length ≤ 1099511627776) : HC Tryd.prog 85 #[.slice a R.length c] h fun v h' => v = tellB R ∧ Ext h h' := by
 have hc := s.le
 refine f85_sh _ _ _ _ _ ⟨fun e h2 x2 => ?_, fun e => ?_⟩
 ·have := of_decide_eq_true e
  unfold tellB; rw [if_neg (fun q => by have := q.1; omega)]
  exact ⟨rfl, x2⟩
 have h24 : 24 ≤ R.length := by have := of_decide_eq_false e; omega
 obtain ⟨ek, kb⟩ := kL_eq hb
 obtain ⟨ev, vb⟩ := vL_eq hb
 refine ⟨by omega, by omega, by omega, fun sl e1 pb h1 lo lt x1 => ⟨(kL R : Int), fun h7 x7 => ?_, by omega, by omega, by omega, fun sl1 e2 => ⟨(vL R : Int), fun h6 x6 => ?_, ?_, ?_⟩⟩⟩
 ·subst e1
  have := num_cut s hb (l := 2) (r := 4) (by decide) (by omega) (by decide) (x1.trans x7)
  rw [ek] at this; exact this
 ·subst e2
  have := num_cut s hb (l := 4) (r := 8) (by decide) (by omega) (by decide) (x1.trans x6)
  rw [ev] at this; exact this
 all_goals rw [w64 (x := (kL R : Int)) (by omega) (by omega), w64 (x := (vL R : Int)) (by omega) (by omega), w64 (x := 24 + (kL R : Int)) (by omega) (by omega), w64 (x := 24 + (kL R : Int) + (vL R : Int)) (by omega) (by omega)]
 ·intro e3 h3 f3
  have := of_decide_eq_true e3
  unfold tellB; rw [if_neg (fun q => by have := q.2; unfold szR at this; omega)]
  exact ⟨rfl, frpb x1 lo f3⟩
 ·intro e3
  have h3 := of_decide_eq_false e3
  have hsz : szR R ≤ R.length := by unfold szR; omega
  have ok : begOk R := ⟨h24, hsz⟩
  unfold szR at hsz
  obtain ⟨b, o, ea, d⟩ := (s.ext x1).at (List.getElem?_eq_getElem (show 0 < R.length by omega))
  subst ea
  have hB := isB_at hb (show 0 < R.length by omega)
  have t1 : Int.toNat (24 + (kL R : Int)) = 24 + kL R := by omega
  have t2 : Int.toNat (24 + (kL R : Int) + (vL R : Int)) = 24 + kL R + vL R := by omega
  rw [t1, t2]
  refine ⟨b, o, rfl, by omega, by omega, R[0], d.1, by omega, by omega, by omega, fun sl2 e4 => ⟨le ((R.drop 8).take 8), fun h5 x5 => ?_, by omega, by omega, by omega, fun sl3 e5 => ⟨(R.drop 24).take (kL R), ?_, by omega, by omega, by omega, fun sl4 e6 => ⟨(R.drop (24 + kL R)).take (vL R), ?_, fun h4 f4 => ?_⟩⟩⟩⟩
  ·subst e4
   exact num_cut s hb (l := 8) (r := 16) (by decide) (by omega) (by decide) (x1.trans x5)
  ·subst e5
   have := byt_cut (s.ext x1) (l := 24) (r := 24 + kL R) (n := kL R) (by omega) (by omega) (by omega)
   rw [show (24 + kL R) - Int.toNat 24 = kL R by show 24 + kL R - 24 = _; omega]; exact this
  ·subst e6
   have := byt_cut (s.ext x1) (l := 24 + kL R) (r := 24 + kL R + vL R) (n := vL R) (by omega) (by omega) (by omega)
   rw [show 24 + kL R + vL R - (24 + kL R) = vL R by omega]; exact this
  ·unfold tellB; rw [if_pos ok]
   have e0 : R.getD 0 0 = R[0] := by rw [List.getD_eq_getElem?_getD, List.getElem?_eq_getElem (show 0 < R.length by omega)]; rfl
   rw [w64 (x := R[0]) (by omega) (by omega)]
   refine ⟨?_, frpb x1 lo f4⟩
   have e8 : ((szR R : Nat) : Int) = 24 + (kL R : Int) + (vL R : Int) := by unfold szR; omega
   rw [e8]
   unfold rcOf
   rw [e0]
end
end Sc
end Go.Proofs.YthjehlocmikchaaDoor
namespace Go.Proofs.YthjehlocmikchaaDoor
namespace Sc
open Go
def recOk (g : Geo) (salt : Int) (R : List Int) : Prop := begOk R ∧ encE g (rcOf R) = 0 ∧ encR salt (rcOf R) = R.take (szR R)
instance (g : Geo) (salt : Int) (R : List Int) : Decidable (recOk g salt R) := by unfold recOk; infer_instance
def decV (g : Geo) (salt : Int) (L : List Int) (p : Int) : Value :=
 if ¬ Gok g then .tuple #[z4.v, .int .i64 0, .int .i64 20] else if p < 0 ∨ p > L.length then .tuple #[z4.v, .int .i64 0, .int .i64 1] else
 if p = L.length ∨ L.getD p.toNat 0 = 255 then .tuple #[z4.v, .int .i64 0, .int .i64 53] else
 if recOk g salt (L.drop p.toNat) then .tuple #[(rcOf (L.drop p.toNat)).v, .int .i64 (szR (L.drop p.toNat)), .int .i64 0] else .tuple #[z4.v, .int .i64 0, .int .i64 52]
section
variable {h : Heap} {a : Option Addr} {c : Nat} {L : List Int}
theorem drop_sl (s : Sl eB h a c L) {p : Nat} (hp : p ≤ L.length) : Sl eB h (slA a p 1 c) (c - p) (L.drop p) := by
 have := s.cut (l := p) (r := L.length) hp (Nat.le_refl _)
 rw [List.take_length] at this; exact this
theorem rc_ver {R : List Int} (hb : isB R) : 0 ≤ (rcOf R).ver ∧ (rcOf R).ver < 18446744073709551616 := le_u64 (isB_take (isB_drop hb 8) 8) (by simp; omega)
theorem getD_at {L : List Int} {k : Nat} (h : k < L.length) : L.getD k 0 = L[k] := by rw [List.getD_eq_getElem?_getD, List.getElem?_eq_getElem h]; rfl
theorem decode_m (g : Geo) {salt : Int} (hs : U32 salt) (s : Sl eB h a c L) (hb : isB L) (hl : L.length ≤ 1099511627776) (p : Int) : HC Tryd.prog 65 #[g.v, .int .u32 salt, .slice a L.length c, .int .i64 p] h fun v h' => v = decV g salt L p ∧ Ext h h' := by
 have hc := s.le
 refine f65_sh _ _ _ _ _ _ _ _ _ _ _ fun gb pb nb h4 log ltg lo lt lon ltn x4 => (check_m g h4).mono ?_
 rintro _ h5 ⟨rfl, x5⟩
 have x45 := x4.trans x5
 unfold decV
 by_cases hn : ¬ Gok g
 ·rw [if_neg hn]
  simp only [if_pos hn]
  exact ⟨x5, _, rfl, fun _ h6 f6 => ⟨rfl, frpb x45 lo f6⟩, fun e => by simp at e⟩
 have hg : Gok g := Decidable.not_not.1 hn
 rw [if_pos hg]
 simp only [if_neg hn]
 refine ⟨x5, _, rfl, fun e => by simp at e, fun _ => ⟨fun e h7 f7 => ?_, fun e => ?_⟩⟩
 ·simp only [Bool.or_eq_true, decide_eq_true_eq] at e
  rw [if_pos e]; exact ⟨rfl, frpb x45 lo f7⟩
 simp only [Bool.or_eq_false_iff, decide_eq_false_iff_not] at e
 have hp : ¬ (p < 0 ∨ p > L.length) := by omega
 simp only [if_neg hp]
 obtain ⟨q, rfl⟩ : ∃ q : Nat, p = q := ⟨p.toNat, by omega⟩
 have hq : q ≤ L.length := by omega
 simp only [Int.toNat_natCast]
 refine ⟨decide ((q : Int) = L.length ∨ L.getD q 0 = 255), ⟨fun e2 => ?_, fun e2 => ?_⟩, fun e2 h8 f8 => ?_, fun e2 => ?_⟩
 ·have : (q : Int) = L.length := by simpa using e2
  simp [this]
 ·have hne : ¬ (q : Int) = L.length := by simpa using e2
  have hql : q < L.length := by omega
  obtain ⟨b, o, ea, d⟩ := (s.ext x45).at (List.getElem?_eq_getElem hql)
  refine ⟨b, o, ea, by omega, by omega, L[q], d.1, ?_⟩
  rw [getD_at hql, Bool.eq_iff_iff]; simp only [decide_eq_true_eq, beq_iff_eq]
  exact ⟨fun q => q.resolve_left hne, .inr⟩
 ·rw [if_pos (of_decide_eq_true e2)]; exact ⟨rfl, frpb x45 lo f8⟩
 ·have hd := of_decide_eq_false e2
  simp only [if_neg hd]
  have hql : q < L.length := by omega
  have sR := drop_sl (s.ext x45) hq
  have hR : isB (L.drop q) := isB_drop hb q
  have hlen : (L.drop q).length = L.length - q := by simp
  refine ⟨by omega, by omega, by omega, fun sl esl => ?_⟩
  subst esl
  have hbeg := begun_m sR hR (by omega)
  rw [hlen] at hbeg
  refine hbeg.mono ?_
  rintro _ h9 ⟨rfl, x9⟩
  have x49 := x45.trans x9
  unfold tellB
  by_cases ok : begOk (L.drop q)
  ·rw [if_pos ok]
   refine ⟨x9.kp _, _, _, _, _, _, _, rfl, fun e => by simp at e, fun _ rb h11 lo11 lt11 x11 => (encode_m g hs (rcOf (L.drop q)) h11).mono ?_⟩
   rintro v h13 ⟨x13, hv⟩
   have xx := x49.trans (x11.trans x13)
   by_cases he : encE g (rcOf (L.drop q)) = 0
   ·rw [if_pos he] at hv
    obtain ⟨a13, c13, rfl, s13⟩ := hv
    have hz := ok.2
    rw [hlen] at hz
    have e3 : IntKind.i64.wrap ((q : Int) + (szR (L.drop q) : Int)) = ((q + szR (L.drop q) : Nat) : Int) := by rw [w64 (by omega) (by omega)]; omega
    have s0 := (s.ext xx).cut (l := q) (r := q + szR (L.drop q)) (by omega) (by omega)
    have e0 : (L.take (q + szR (L.drop q))).drop q = (L.drop q).take (szR (L.drop q)) := by rw [List.drop_take]; congr 1; omega
    rw [e0] at s0
    have hk : kindOk (rcOf (L.drop q)) := by
     unfold encE at he
     rw [if_neg hn] at he
     split at he
     ·cases he
     ·rename_i hk; exact Decidable.not_not.1 hk
    have hE := eq_m s13 s0 (encR_isB hk) (isB_take hR _)
    have el : ((L.drop q).take (szR (L.drop q))).length = szR (L.drop q) := by rw [List.length_take, hlen]; omega
    rw [el] at hE
    refine ⟨x13, _, _, _, _, rfl, !decide (encR salt (rcOf (L.drop q)) = (L.drop q).take (szR (L.drop q))), ⟨fun q => by simp at q, fun _ => ?_⟩, fun e h14 f14 => ?_, fun e h15 f15 => ?_⟩
    ·rw [e3]
     refine ⟨by omega, by omega, by omega, fun sl1 es => ⟨_, ?_, rfl⟩⟩
     subst es
     rw [Int.toNat_natCast, show q + szR (L.drop q) - q = szR (L.drop q) by omega]
     exact hE
    ·have hne : ¬ encR salt (rcOf (L.drop q)) = (L.drop q).take (szR (L.drop q)) := by simpa using e
     rw [if_neg (fun r : recOk g salt (L.drop q) => hne r.2.2)]
     exact ⟨rfl, frpb xx lo f14⟩
    ·have heq : encR salt (rcOf (L.drop q)) = (L.drop q).take (szR (L.drop q)) := by simpa using e
     rw [if_pos (show recOk g salt (L.drop q) from ⟨ok, he, heq⟩)]
     exact ⟨rfl, frpb xx lo f15⟩
   ·rw [if_neg he] at hv
    subst hv
    refine ⟨x13, _, _, _, _, rfl, true, ⟨fun _ => rfl, fun q => by simp [he] at q⟩, fun e h14 f14 => ?_, fun e => by cases e⟩
    rw [if_neg (fun r : recOk g salt (L.drop q) => he r.2.1)]
    exact ⟨rfl, frpb xx lo f14⟩
  ·rw [if_neg ok]
   refine ⟨x9.kp _, _, _, _, _, _, _, rfl, fun _ rb h11 lo11 lt11 x11 h12 f12 => ?_, fun e => by simp at e⟩
   rw [if_neg (fun r : recOk g salt (L.drop q) => ok r.1)]
   exact ⟨rfl, frpb (x49.trans x11) lo f12⟩
end
end Sc
end Go.Proofs.YthjehlocmikchaaDoor
namespace Go.Proofs.YthjehlocmikchaaDoor
namespace Sc
open Go
section
variable {h : Heap} {a : Option Addr} {c : Nat} {L : List Int}
theorem enc_sz {salt : Int} {R : List Int} (ok : begOk R) : (encR salt (rcOf R)).length = szR R := by
 have h1 := ok.1
 have h2 := ok.2
 unfold szR at h2
 rw [encR_len]
 unfold rcOf szR
 simp only [ofL_size, List.length_take, List.length_drop]
 omega
theorem num_at (s : Sl eB h a c L) (hb : isB L) (hl : L.length ≤ 1099511627776) {q n : Nat} (hn : n = L.length) (p k : Nat) (hk : k ≤ 8) (hp : p + k ≤ L.length) (hq : q = k) : HC Tryd.prog 69 #[.slice a n c, .int .i64 p, .int .i64 q] h fun v h' => v = .int .u64 (le ((L.drop p).take k)) ∧ h' = h := by
 subst hn; subst hq; exact number_r s hb hl p q hk hp
set_option maxHeartbeats 1600000 in
theorem decode_r (g : Geo) {salt : Int} (hs : U32 salt) (s : Sl eB h a c L) (hb : isB L) (hl : L.length ≤ 1099511627776) (p : Int) : HC Tryd.prog 47 #[g.v, .int .u32 salt, .slice a L.length c, .int .i64 p] h fun v h' => v = decV g salt L p ∧ Ext h h' := by
 have hc := s.le
 refine f47_sh _ _ _ _ _ _ _ _ _ _ _ fun gb pb h2 log ltg lo lt x2 => (check_r g h2).mono ?_
 rintro _ h3 ⟨rfl, x3⟩
 have x23 := x2.trans x3
 unfold decV
 by_cases hn : ¬ Gok g
 ·rw [if_neg hn]
  simp only [if_pos hn]
  exact ⟨x3, _, rfl, fun _ h6 f6 => ⟨rfl, frpb x23 lo f6⟩, fun e => by simp at e⟩
 have hg : Gok g := Decidable.not_not.1 hn
 rw [if_pos hg]
 simp only [if_neg hn]
 refine ⟨x3, _, rfl, fun e => by simp at e, fun _ => ⟨fun e h7 f7 => ?_, fun e => ?_⟩⟩
 ·simp only [Bool.or_eq_true, decide_eq_true_eq] at e
  rw [if_pos e]; exact ⟨rfl, frpb x23 lo f7⟩
 simp only [Bool.or_eq_false_iff, decide_eq_false_iff_not] at e
 have hp : ¬ (p < 0 ∨ p > L.length) := by omega
 simp only [if_neg hp]
 obtain ⟨q, rfl⟩ : ∃ q : Nat, p = q := ⟨p.toNat, by omega⟩
 have hq : q ≤ L.length := by omega
 simp only [Int.toNat_natCast]
 refine ⟨decide ((q : Int) = L.length ∨ L.getD q 0 = 255), ⟨fun e2 => ?_, fun e2 => ?_⟩, fun e2 h8 f8 => ?_, fun e2 => ?_⟩
 ·have : (q : Int) = L.length := by simpa using e2
  simp [this]
 ·have hne : ¬ (q : Int) = L.length := by simpa using e2
  have hql : q < L.length := by omega
  obtain ⟨b, o, ea, d⟩ := (s.ext x23).at (List.getElem?_eq_getElem hql)
  refine ⟨b, o, ea, by omega, by omega, L[q], d.1, ?_⟩
  rw [getD_at hql, Bool.eq_iff_iff]; simp only [decide_eq_true_eq, beq_iff_eq]
  exact ⟨fun q => q.resolve_left hne, .inr⟩
 ·rw [if_pos (of_decide_eq_true e2)]; exact ⟨rfl, frpb x23 lo f8⟩
 have hd := of_decide_eq_false e2
 simp only [if_neg hd]
 have hql : q < L.length := by omega
 have sR := drop_sl (s.ext x23) hq
 have hR : isB (L.drop q) := isB_drop hb q
 have hlen : (L.drop q).length = L.length - q := by simp
 refine ⟨by omega, by omega, by omega, fun sl esl => ?_⟩
 subst esl
 generalize hRr : L.drop q = R at *
 have hRc := sR.le
 refine ⟨fun e3 h7 f7 => ?_, fun e3 => ?_⟩
 ·have := of_decide_eq_true e3
  rw [if_neg (fun r : recOk g salt R => by have := r.1.1; omega)]
  exact ⟨rfl, frpb x23 lo f7⟩
 have h24 : 24 ≤ R.length := by have := of_decide_eq_false e3; omega
 obtain ⟨ek, kb⟩ := kL_eq hR
 obtain ⟨ev, vb⟩ := vL_eq hR
 refine ⟨(kL R : Int), by rw [← ek]; exact num_at sR hR (by omega) (by omega) 2 2 (by decide) (by omega) rfl, (vL R : Int), by rw [← ev]; exact num_at sR hR (by omega) (by omega) 4 4 (by decide) (by omega) rfl, ?_⟩
 rw [w64 (x := (kL R : Int)) (by omega) (by omega), w64 (x := (vL R : Int)) (by omega) (by omega), w64 (x := (kL R : Int) + (vL R : Int)) (by omega) (by omega), w64 (x := 24 + (kL R : Int)) (by omega) (by omega), w64 (x := 24 + (kL R : Int) + (vL R : Int)) (by omega) (by omega)]
 have ew : IntKind.i64.wrap (((L.length - q : Nat) : Int) - 24) = ((L.length - q : Nat) : Int) - 24 := w64 (by omega) (by omega)
 simp only [ew]
 refine ⟨fun e4 h8 f8 => ?_, fun e4 => ?_⟩
 ·have := of_decide_eq_true e4
  rw [if_neg (fun r : recOk g salt R => by have := r.1.2; unfold szR at this; omega)]
  exact ⟨rfl, frpb x23 lo f8⟩
 have hle := of_decide_eq_false e4
 have ok : begOk R := ⟨h24, by unfold szR; omega⟩
 have hz := ok.2
 obtain ⟨b, o, ea, d⟩ := sR.at (List.getElem?_eq_getElem (show 0 < R.length by omega))
 have hB := isB_at hR (show 0 < R.length by omega)
 rw [ea] at sR
 rw [ea]
 have t1 : Int.toNat (24 + (kL R : Int)) = 24 + kL R := by omega
 have t2 : Int.toNat (24 + (kL R : Int) + (vL R : Int)) = 24 + kL R + vL R := by omega
 have hsz : szR R = 24 + kL R + vL R := rfl
 rw [t1, t2]
 refine ⟨b, o, rfl, by omega, by omega, R[0], d.1, le ((R.drop 8).take 8), fun h14 x14 => num_at (sR.ext x14) hR (by omega) (by omega) 8 8 (by decide) (by omega) rfl, by omega, by omega, by omega, fun sl1 e5 => ⟨(R.drop 24).take (kL R), ?_, by omega, by omega, by omega, fun sl2 e6 => ⟨(R.drop (24 + kL R)).take (vL R), ?_, fun rb h10 lo10 lt10 x10 => ?_⟩⟩⟩
 ·subst e5
  have := byt_cut sR (l := 24) (r := 24 + kL R) (n := kL R) (by omega) (by omega) (by omega)
  rw [show (24 + kL R) - Int.toNat 24 = kL R by show 24 + kL R - 24 = _; omega]; exact this
 ·subst e6
  have := byt_cut sR (l := 24 + kL R) (r := 24 + kL R + vL R) (n := vL R) (by omega) (by omega) (by omega)
  rw [show 24 + kL R + vL R - (24 + kL R) = vL R by omega]; exact this
 have eRc : (⟨R[0], le ((R.drop 8).take 8), ofL ((R.drop 24).take (kL R)), ofL ((R.drop (24 + kL R)).take (vL R))⟩ : Rc) = rcOf R := by
  unfold rcOf; rw [getD_at (show 0 < R.length by omega)]
 rw [w64 (x := R[0]) (by omega) (by omega)]
 have henc := encode_r g hs (rcOf R) (rc_ver hR) h10
 rw [← eRc] at henc
 refine henc.mono ?_
 rw [eRc]
 rintro v h11 ⟨x11, hv⟩
 have xx := x23.trans (x10.trans x11)
 have eV : (Value.agg #[.int .i64 R[0], .int .u64 (le ((R.drop 8).take 8)), .string (ofL ((R.drop 24).take (kL R))), .string (ofL ((R.drop (24 + kL R)).take (vL R)))]) = (rcOf R).v := by rw [← eRc]
 rw [eV]
 by_cases he : encE g (rcOf R) = 0
 ·rw [if_pos he] at hv
  obtain ⟨a11, c11, rfl, s11⟩ := hv
  have s0 := (sR.ext (x10.trans x11)).cut (l := 0) (r := szR R) (Nat.zero_le _) hz
  have e0 : (R.take (szR R)).drop 0 = R.take (szR R) := rfl
  rw [e0] at s0
  have hE := eq_r s11 s0 (by rw [enc_sz ok]; omega)
  have el : (R.take (szR R)).length = szR R := by rw [List.length_take]; omega
  rw [el] at hE
  refine ⟨x11, _, _, _, _, rfl, !decide (encR salt (rcOf R) = R.take (szR R)), ⟨fun q => by simp at q, fun _ => ⟨by omega, by omega, by omega, fun sl3 es => ⟨_, by subst es; exact hE, rfl⟩⟩⟩, fun e h12 f12 => ?_, fun e h13 f13 => ?_⟩
  ·have hne : ¬ encR salt (rcOf R) = R.take (szR R) := by simpa using e
   rw [if_neg (fun r : recOk g salt R => hne r.2.2)]
   exact ⟨rfl, frpb xx lo f12⟩
  ·have heq : encR salt (rcOf R) = R.take (szR R) := by simpa using e
   rw [if_pos (show recOk g salt R from ⟨ok, he, heq⟩), enc_sz ok]
   exact ⟨rfl, frpb xx lo f13⟩
 ·rw [if_neg he] at hv
  subst hv
  refine ⟨x11, _, _, _, _, rfl, true, ⟨fun _ => rfl, fun q => by simp [he] at q⟩, fun e h12 f12 => ?_, fun e => by cases e⟩
  rw [if_neg (fun r : recOk g salt R => he r.2.1)]
  exact ⟨rfl, frpb xx lo f12⟩
end
end Sc
end Go.Proofs.YthjehlocmikchaaDoor
