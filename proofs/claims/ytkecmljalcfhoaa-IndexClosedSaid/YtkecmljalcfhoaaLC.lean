/-
A call of both indexes; both the same.
-/
import Derived.Test.YtkecmljalcfhoaaLB
namespace Go.Proofs.Ytkecmljalcfhoaa
namespace Ix
open Go RH

section
variable {W V : Nat → Prop} {h : Heap} {x r m : Nat} {Ls : List (List Ent)}
theorem get_l (a : Has W h x m Ls) {v : Nat} (hv : v < 18446744073709551616) : HC Try.prog 11 #[.pointer (some ⟨x, 0, none⟩), .int .u64 v] h fun z h' => z = v2 (mGet (str Ls v) v) ∧ Ext h h' := by
  obtain ⟨Ts, I, rfl⟩ := a; exact get_i I hv
theorem remove_l (a : Has W h x m Ls) {v : Nat} (hv : v < 18446744073709551616) : HC Try.prog 30 #[.pointer (some ⟨x, 0, none⟩), .int .u64 v] h fun z h' => z = v2 (mDel (str Ls v) v).1 ∧ Aft W h x m (Ls.set (v % Ls.length) (mDel (str Ls v) v).2) h' := by
  obtain ⟨Ts, I, rfl⟩ := a; rw [List.length_map]; exact remove_i I hv
theorem hit_l (a : Has W h x m Ls) {v : Nat} (hv : v < 18446744073709551616) : HC Try.prog 33 #[.pointer (some ⟨x, 0, none⟩), .int .u64 v] h fun z h' => z = .bool (mHit (str Ls v) v).1 ∧ Aft W h x m (Ls.set (v % Ls.length) (mHit (str Ls v) v).2) h' := by
  obtain ⟨Ts, I, rfl⟩ := a; rw [List.length_map]; exact hit_i I hv
theorem removeIf_l (a : Has W h x m Ls) {v at_ : Nat} (hv : v < 18446744073709551616) : HC Try.prog 31 #[.pointer (some ⟨x, 0, none⟩), .int .u64 v, .int .u64 at_] h fun z h' => z = .bool (mDelIf (str Ls v) v at_).1 ∧ Aft W h x m (Ls.set (v % Ls.length) (mDelIf (str Ls v) v at_).2) h' := by
  obtain ⟨Ts, I, rfl⟩ := a; rw [List.length_map]; exact removeIf_i I hv
theorem move_l (a : Has W h x m Ls) {v fr to : Nat} (hv : v < 18446744073709551616) (hto : to < 18446744073709551616) : HC Try.prog 32 #[.pointer (some ⟨x, 0, none⟩), .int .u64 v, .int .u64 fr, .int .u64 to] h fun z h' => z = .bool (mMove (str Ls v) v fr to).1 ∧ Aft W h x m (Ls.set (v % Ls.length) (mMove (str Ls v) v fr to).2) h' := by
  obtain ⟨Ts, I, rfl⟩ := a; rw [List.length_map]; exact move_i I hv hto
/-- Purge, over all stripes. -/
def purgeL (Ls : List (List Ent)) (n q : Int) : List (List Ent) := if 0 ≤ n ∧ n < Ls.length then Ls.set n.toNat (mPurge (ent Ls n) q).2 else Ls
theorem purge_l (a : Has W h x m Ls) (n q : Int) (hq : q ≤ 9223372036854775807) : HC Try.prog 19 #[.pointer (some ⟨x, 0, none⟩), .int .i64 n, .int .i64 q] h fun z h' => z = .int .i64 ((mPurge (ent Ls n) q).1 : Int) ∧ Aft W h x m (purgeL Ls n q) h' := by
  obtain ⟨Ts, I, rfl⟩ := a
  unfold purgeL
  rw [List.length_map]; exact purge_i I n q hq
theorem stripe_l (a : Has W h x m Ls) (v : Nat) : HC Try.prog 24 #[.pointer (some ⟨x, 0, none⟩), .int .u64 v] h fun z h' => z = .int .i64 ((v % Ls.length : Nat) : Int) ∧ h' = h := by
  obtain ⟨Ts, I, rfl⟩ := a
  rw [List.length_map]; exact stripe_i I v
theorem stripes_l (a : Has W h x m Ls) : HC Try.prog 17 #[.pointer (some ⟨x, 0, none⟩)] h fun z h' => z = .int .i64 (Ls.length : Int) ∧ h' = h := by
  obtain ⟨Ts, I, rfl⟩ := a
  rw [List.length_map]; exact stripes_i I
theorem len_l (a : Has W h x m Ls) (n : Int) : HC Try.prog 23 #[.pointer (some ⟨x, 0, none⟩), .int .i64 n] h fun z h' => z = .int .i64 ((ent Ls n).length : Int) ∧ h' = h := by
  obtain ⟨Ts, I, rfl⟩ := a; exact len_i I n

theorem put_m (a : HasR V h r m Ls) {e : Ent} (hw : e.wf) : HC Try.prog 34 #[ptr r 0, .agg #[.int .u64 e.h, .int .u64 e.a, .int .u64 e.v, .int .u8 e.k]] h fun z h' => z = v3 (mPut m (str Ls e.h) e).1 ∧ AftR V h r m (Ls.set (e.h % Ls.length) (mPut m (str Ls e.h) e).2) h' := by
  obtain ⟨ab, ao, ac, Rs, I, rfl⟩ := a; rw [List.length_map]; exact put_r I hw
theorem get_m (a : HasR V h r m Ls) (v : Nat) : HC Try.prog 35 #[ptr r 0, .int .u64 v] h fun z h' => z = v2 (mGet (str Ls v) v) ∧ Ext h h' := by
  obtain ⟨ab, ao, ac, Rs, I, rfl⟩ := a; exact get_r I v
theorem remove_m (a : HasR V h r m Ls) (v : Nat) : HC Try.prog 37 #[ptr r 0, .int .u64 v] h fun z h' => z = v2 (mDel (str Ls v) v).1 ∧ AftR V h r m (Ls.set (v % Ls.length) (mDel (str Ls v) v).2) h' := by
  obtain ⟨ab, ao, ac, Rs, I, rfl⟩ := a; rw [List.length_map]; exact remove_r I v
theorem hit_m (a : HasR V h r m Ls) (v : Nat) : HC Try.prog 40 #[ptr r 0, .int .u64 v] h fun z h' => z = .bool (mHit (str Ls v) v).1 ∧ AftR V h r m (Ls.set (v % Ls.length) (mHit (str Ls v) v).2) h' := by
  obtain ⟨ab, ao, ac, Rs, I, rfl⟩ := a; rw [List.length_map]; exact hit_r I v
theorem removeIf_m (a : HasR V h r m Ls) (v at_ : Nat) : HC Try.prog 38 #[ptr r 0, .int .u64 v, .int .u64 at_] h fun z h' => z = .bool (mDelIf (str Ls v) v at_).1 ∧ AftR V h r m (Ls.set (v % Ls.length) (mDelIf (str Ls v) v at_).2) h' := by
  obtain ⟨ab, ao, ac, Rs, I, rfl⟩ := a; rw [List.length_map]; exact removeIf_r I v at_
theorem move_m (a : HasR V h r m Ls) {v fr to : Nat} (hto : to < 18446744073709551616) : HC Try.prog 39 #[ptr r 0, .int .u64 v, .int .u64 fr, .int .u64 to] h fun z h' => z = .bool (mMove (str Ls v) v fr to).1 ∧ AftR V h r m (Ls.set (v % Ls.length) (mMove (str Ls v) v fr to).2) h' := by
  obtain ⟨ab, ao, ac, Rs, I, rfl⟩ := a; rw [List.length_map]; exact move_r I hto
theorem purge_m (a : HasR V h r m Ls) (n q : Int) (hq : q ≤ 9223372036854775807) : HC Try.prog 41 #[ptr r 0, .int .i64 n, .int .i64 q] h fun z h' => z = .int .i64 ((mPurge (ent Ls n) q).1 : Int) ∧ AftR V h r m (purgeL Ls n q) h' := by
  obtain ⟨ab, ao, ac, Rs, I, rfl⟩ := a
  unfold purgeL
  rw [List.length_map]; exact purge_r I n q hq
theorem stripe_m (a : HasR V h r m Ls) (v : Nat) : HC Try.prog 36 #[ptr r 0, .int .u64 v] h fun z h' => z = .int .i64 ((v % Ls.length : Nat) : Int) ∧ h' = h := by
  obtain ⟨ab, ao, ac, Rs, I, rfl⟩ := a
  rw [List.length_map]; exact stripe_r I v
theorem len_m (a : HasR V h r m Ls) (n : Int) : HC Try.prog 43 #[ptr r 0, .int .i64 n] h fun z h' => z = .int .i64 ((ent Ls n).length : Int) ∧ h' = h := by
  obtain ⟨ab, ao, ac, Rs, I, rfl⟩ := a; exact len_r I n
theorem c1_m (a : HasR V h r m Ls) : ∃ aa c, hcell h r 1 = some (.slice aa Ls.length c) := by
  obtain ⟨ab, ao, ac, Rs, I, rfl⟩ := a
  exact ⟨_, _, by rw [List.length_map]; exact I.c1⟩

/-- Both indexes, within a set of blocks; what a call of both leaves. -/
def BothU (U : Nat → Prop) (h : Heap) (x r m : Nat) (Ls : List (List Ent)) : Prop := ∃ W V, Has W h x m Ls ∧ HasR V h r m Ls ∧ (∀ b, W b → ¬ V b) ∧ (∀ b, W b → U b) ∧ ∀ b, V b → U b
def AftU (U : Nat → Prop) (h : Heap) (x r m : Nat) (Ls : List (List Ent)) (h' : Heap) : Prop := BothU (grown U h h') h' x r m Ls ∧ Fr U h h'
variable {U : Nat → Prop}
theorem bothU_step (hd : ∀ b, W b → ¬ V b) (hw : ∀ b, W b → U b) (hv : ∀ b, V b → U b) (lw : ∀ b, W b → b < h.size) (lv : ∀ b, V b → b < h.size) {h1 h2 h4 h5 h7 : Heap} (e1 : Ext h h1) (a2 : Aft W h1 x m Ls h2) (e4 : Ext h2 h4) (a5 : AftR V h4 r m Ls h5) (e7 : Ext h5 h7) : AftU U h x r m Ls h7 := by
  have s1 := e1.size
  have s2 := a2.1.size
  have s4 := e4.size
  have s5 := a5.1.size
  have s7 := e7.size
  refine ⟨⟨grown W h1 h2, grown V h4 h5, ((a2.2.ext e4).fr a5.1 fun b g q => ?_).ext e7, a5.2.ext e7, fun b g q => ?_, fun b g => ?_, fun b g => ?_⟩, ?_⟩
  · rcases g with g | g
    · exact hd b g q
    · have := lv b q; omega
  · rcases g with g | g <;> rcases q with q | q
    · exact hd b g q
    · have := lw b g; omega
    · have := lv b q; omega
    · omega
  · rcases g with g | g
    · exact .inl (hw b g)
    · exact .inr (by omega)
  · rcases g with g | g
    · exact .inl (hv b g)
    · exact .inr (by omega)
  · exact ((((e1.fr _).trans a2.1 fun b _ g => hw b g).trans (e4.fr (fun _ => False)) fun _ _ g => g.elim).trans a5.1 fun b _ g => hv b g).trans (e7.fr (fun _ => False)) fun _ _ g => g.elim
theorem bothU_ext (b : BothU U h x r m Ls) {h' : Heap} (e : Ext h h') : AftU U h x r m Ls h' := by
  obtain ⟨W, V, k1, k2, k3, k4, k5⟩ := b
  exact ⟨⟨W, V, k1.ext e, k2.ext e, k3, fun b g => .inl (k4 b g), fun b g => .inl (k5 b g)⟩, e.fr _⟩
theorem BothU.mono (b : BothU U h x r m Ls) {U' : Nat → Prop} (hu : ∀ b, U b → U' b) : BothU U' h x r m Ls := by
  obtain ⟨W, V, k1, k2, k3, k4, k5⟩ := b
  exact ⟨W, V, k1, k2, k3, fun b g => hu b (k4 b g), fun b g => hu b (k5 b g)⟩
theorem BothU.ext (b : BothU U h x r m Ls) {h' : Heap} (e : Ext h h') : BothU U h' x r m Ls := by
  obtain ⟨W, V, k1, k2, k3, k4, k5⟩ := b
  exact ⟨W, V, k1.ext e, k2.ext e, k3, k4, k5⟩
theorem BothU.fr (b : BothU U h x r m Ls) {h' : Heap} {S : Nat → Prop} (f : Fr S h h') (hn : ∀ b, U b → ¬ S b) : BothU U h' x r m Ls := by
  obtain ⟨W, V, k1, k2, k3, k4, k5⟩ := b
  exact ⟨W, V, k1.fr f fun b g => hn b (k4 b g), k2.fr f fun b g => hn b (k5 b g), k3, k4, k5⟩
/-- What a call of both leaves. -/
def Aft2 (N : Nat) (h : Heap) (x r m : Nat) (Ls : List (List Ent)) (h' : Heap) : Prop := Both N h' x r m Ls ∧ Fr (fun b => N ≤ b) h h'
variable {N : Nat}
theorem both_ext (b : Both N h x r m Ls) {h' : Heap} (e : Ext h h') : Aft2 N h x r m Ls h' := by
  obtain ⟨W, V, k1, k2, k3⟩ := b
  exact ⟨⟨W, V, k1.ext e, k2.ext e, k3⟩, e.fr _⟩
/-- The document's index is where it was behind a call of the other. -/
theorem hasR_over (hr : HasR V h r m Ls) (hd : ∀ b, W b → ¬ V b) {h1 h2 : Heap} (e1 : Ext h h1) (f : Fr W h1 h2) : HasR V h2 r m Ls := (hr.ext e1).fr f fun b g q => hd b q g

set_option maxHeartbeats 16000000 in
theorem does_u (b : BothU U h x r m Ls) (k : Int) {e : Ent} (hw : e.wf) {at_ : Nat} (n q : Int) (hq : q ≤ 9223372036854775807) :
    HC Try.prog 13 #[ptr x 0, ptr r 0, .agg #[.int .i64 k, .int .u64 e.h, .int .u64 e.a, .int .u64 e.v, .int .u8 e.k, .int .u64 at_, .int .i64 n, .int .i64 q]] h fun v h' => v = .bool true ∧ ∃ Ls', AftU U h x r m Ls' h' := by
  have b0 := b
  obtain ⟨W, V, hx, hr, hd, hwN, hvN⟩ := b
  have lw := hx.lt
  have lv := hr.lt
  have nw : ∀ {o}, h.size ≤ o → ¬ W o := fun lo g => by have := lw _ g; omega
  have nv : ∀ {o}, h.size ≤ o → ¬ V o := fun lo g => by have := lv _ g; omega
  refine f13_sh _ _ _ _ _ _ _ _ _ _ _ _ _ _ ⟨fun _ => ?_, fun _ => ⟨fun _ => ?_, fun _ => ⟨fun _ => ?_, fun _ => ⟨fun _ => ?_, fun _ => ⟨fun _ => ?_, fun _ => ⟨fun _ => ?_, fun _ => ⟨fun _ => ?_, fun _ => ⟨fun _ => ?_, fun _ => ⟨fun _ => ?_, fun _ => fun h1 x1 => ⟨rfl, Ls, bothU_ext b0 x1⟩⟩⟩⟩⟩⟩⟩⟩⟩⟩
  · intro o h1 lo1 lt1 x1
    have hs1 := x1.size
    refine (put_l (hx.ext x1) hw).mono ?_
    rintro _ h2 ⟨rfl, a2⟩
    have hs2 := a2.1.size
    refine ⟨a2.1.kp (by simpa using nw lo1), _, _, _, _, _, _, rfl, fun a h4 lo4 lt4 x4 => ?_⟩
    refine (put_m ((hasR_over hr hd x1 a2.1).ext x4) hw).mono ?_
    rintro _ h5 ⟨rfl, a5⟩
    refine ⟨a5.1.kp (by simpa using ⟨nv lo1, nv (by omega)⟩), _, _, _, _, _, _, rfl, fun h7 x7 => ⟨by simp, _, bothU_step hd hwN hvN lw lv x1 a2 x4 a5 x7⟩⟩
  · intro o h1 lo1 lt1 x1
    refine (get_l (hx.ext x1) hw.1).mono ?_
    rintro _ h2 ⟨rfl, x2⟩
    refine ⟨x2.kp _, _, _, _, _, _, rfl, fun a h4 lo4 lt4 x4 => (get_m (hr.ext (x1.trans (x2.trans x4))) e.h).mono ?_⟩
    rintro _ h5 ⟨rfl, x5⟩
    have x05 := x1.trans (x2.trans (x4.trans x5))
    refine ⟨x5.kp _, _, _, _, _, _, rfl, true, ⟨fun _ => ⟨fun _ h13 x13 => ⟨_, fun h15 x15 => stripe_l (hx.ext (x05.trans (x13.trans x15))) e.h, _, fun h14 x14 => stripe_m (hr.ext (x05.trans (x13.trans x14))) e.h, by simp⟩, fun g => by simp at g⟩, fun g => by simp at g⟩, fun h13 x13 => ⟨rfl, Ls, bothU_ext b0 (x05.trans x13)⟩⟩
  · intro o h1 lo1 lt1 x1
    have hs1 := x1.size
    refine (remove_l (hx.ext x1) hw.1).mono ?_
    rintro _ h2 ⟨rfl, a2⟩
    have hs2 := a2.1.size
    refine ⟨a2.1.kp (by simpa using nw lo1), _, _, _, _, _, rfl, fun a h4 lo4 lt4 x4 => ?_⟩
    refine (remove_m ((hasR_over hr hd x1 a2.1).ext x4) e.h).mono ?_
    rintro _ h5 ⟨rfl, a5⟩
    refine ⟨a5.1.kp (by simpa using ⟨nv lo1, nv (by omega)⟩), _, _, _, _, _, rfl, fun h7 x7 => ⟨by simp, _, bothU_step hd hwN hvN lw lv x1 a2 x4 a5 x7⟩⟩
  · refine ⟨Fr W, fit_fr _, fun o h1 lo1 lt1 x1 => ⟨fun hx f => f.kp (by simpa using nw lo1), fun hx f => f.kp (by simpa using nw lo1), (removeIf_l (hx.ext x1) hw.1).mono ?_⟩⟩
    rintro _ h2 ⟨rfl, a2⟩
    refine ⟨a2.1, a2.1.kp (by simpa using nw lo1), _, rfl, (removeIf_m (hasR_over hr hd x1 a2.1) e.h at_).mono ?_⟩
    rintro _ h5 ⟨rfl, a5⟩
    exact ⟨a5.1.kp (by simpa using nv lo1), _, rfl, by simp, _, bothU_step hd hwN hvN lw lv x1 a2 (Ext.refl _) a5 (Ext.refl _)⟩
  · refine ⟨Fr W, fit_fr _, fun o h1 lo1 lt1 x1 => ⟨fun hx f => f.kp (by simpa using nw lo1), fun hx f => f.kp (by simpa using nw lo1), fun hx f => f.kp (by simpa using nw lo1), (move_l (hx.ext x1) hw.1 hw.2.1).mono ?_⟩⟩
    rintro _ h2 ⟨rfl, a2⟩
    refine ⟨a2.1, a2.1.kp (by simpa using nw lo1), _, rfl, (move_m (hasR_over hr hd x1 a2.1) hw.2.1).mono ?_⟩
    rintro _ h5 ⟨rfl, a5⟩
    exact ⟨a5.1.kp (by simpa using nv lo1), _, rfl, by simp, _, bothU_step hd hwN hvN lw lv x1 a2 (Ext.refl _) a5 (Ext.refl _)⟩
  · refine ⟨Fr W, fit_fr _, fun o h1 lo1 lt1 x1 => ⟨fun hx f => f.kp (by simpa using nw lo1), (hit_l (hx.ext x1) hw.1).mono ?_⟩⟩
    rintro _ h2 ⟨rfl, a2⟩
    refine ⟨a2.1, a2.1.kp (by simpa using nw lo1), _, rfl, (hit_m (hasR_over hr hd x1 a2.1) e.h).mono ?_⟩
    rintro _ h5 ⟨rfl, a5⟩
    exact ⟨a5.1.kp (by simpa using nv lo1), _, rfl, by simp, _, bothU_step hd hwN hvN lw lv x1 a2 (Ext.refl _) a5 (Ext.refl _)⟩
  · refine ⟨Fr W, fit_fr _, fun o h1 lo1 lt1 x1 => ⟨fun hx f => f.kp (by simpa using nw lo1), fun hx f => f.kp (by simpa using nw lo1), (purge_l (hx.ext x1) n q hq).mono ?_⟩⟩
    rintro _ h2 ⟨rfl, a2⟩
    refine ⟨a2.1, a2.1.kp (by simpa using nw lo1), _, rfl, (purge_m (hasR_over hr hd x1 a2.1) n q hq).mono ?_⟩
    rintro _ h5 ⟨rfl, a5⟩
    exact ⟨a5.1.kp (by simpa using nv lo1), _, rfl, by simp, _, bothU_step hd hwN hvN lw lv x1 a2 (Ext.refl _) a5 (Ext.refl _)⟩
  · intro o h1 lo1 lt1 x1
    refine (allIs_c (hx.ext x1) (hr.ext x1) n q).mono ?_
    rintro _ h2 ⟨rfl, x2⟩
    exact ⟨x2.kp _, _, rfl, rfl, Ls, bothU_ext b0 (x1.trans x2)⟩
  · refine ⟨true, fun o h1 lo1 lt1 x1 => ⟨_, fun h49 x49 => len_l (hx.ext (x1.trans x49)) n, _, fun h48 x48 => len_m (hr.ext (x1.trans x48)) n, fun _ => ⟨_, fun h47 x47 => stripes_l (hx.ext (x1.trans x47)), ?_⟩, fun g => by simp at g⟩, fun h1 x1 => ⟨rfl, Ls, bothU_ext b0 x1⟩⟩
    obtain ⟨aa, c, hc⟩ := c1_m (hr.ext x1)
    exact ⟨aa, _, c, hc, by simp⟩

theorem does_c (b : Both N h x r m Ls) (k : Int) {e : Ent} (hw : e.wf) {at_ : Nat} (n q : Int) (hq : q ≤ 9223372036854775807) :
    HC Try.prog 13 #[ptr x 0, ptr r 0, .agg #[.int .i64 k, .int .u64 e.h, .int .u64 e.a, .int .u64 e.v, .int .u8 e.k, .int .u64 at_, .int .i64 n, .int .i64 q]] h fun v h' => v = .bool true ∧ ∃ Ls', Aft2 N h x r m Ls' h' := by
  have b0 : BothU (fun b => N ≤ b) h x r m Ls := b
  obtain ⟨W, V, hx, _, _, hwN, _⟩ := b
  have hN : N ≤ h.size := by
    have lw := hx.lt
    obtain ⟨Ts, I, _⟩ := hx
    have := hwN _ I.wx; have := lw _ I.wx; omega
  refine (does_u b0 k hw n q hq).mono ?_
  rintro v h' ⟨hv, Ls', a, f⟩
  exact ⟨hv, Ls', a.mono fun b g => g.elim id fun g => Nat.le_trans hN g.1, f⟩

theorem same_c (b : Both N h x r m Ls) : HC Try.prog 14 #[ptr x 0, ptr r 0] h fun v h' => v = .bool true ∧ Ext h h' := by
  obtain ⟨W, V, hx, hr, _⟩ := b
  have hl := hx.lens
  refine f14_sh _ _ _ _ _ _ ⟨fun s h1 => -1 ≤ s ∧ s ≤ Ls.length + 1 ∧ Ext h h1, fun s _ => (Ls.length + 1 - s).toNat, ⟨by omega, by omega, Ext.refl _⟩, ?_⟩
  rintro s h1 ⟨h0, h2, x1⟩
  obtain ⟨aa, c, hc⟩ := c1_m (hr.ext x1)
  refine ⟨aa, _, c, hc, fun hlt => ?_, fun _ => ⟨rfl, x1⟩⟩
  have hs := of_decide_eq_true hlt
  refine ⟨fun j h3 => j = false ∧ Ext h h3, (allIs_c (hx.ext x1) (hr.ext x1) s 1).mono ?_, ?_⟩
  · rintro _ h3 ⟨rfl, x3⟩
    refine ⟨true, rfl, fun g => (by cases g), fun _ => ⟨_, len_l (hx.ext (x1.trans x3)) s, _, len_m (hr.ext (x1.trans x3)) s, by simp, x1.trans x3⟩⟩
  · rintro _ h3 ⟨rfl, x3⟩
    refine ⟨fun g => (by cases g), fun _ => ?_⟩
    rw [w64 (by omega) (by omega)]
    exact ⟨⟨by omega, by omega, x3⟩, by show ((Ls.length : Int) + 1 - (s + 1)).toNat < ((Ls.length : Int) + 1 - s).toNat; omega⟩
end
end Ix
end Go.Proofs.Ytkecmljalcfhoaa
