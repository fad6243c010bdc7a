/- What the claim leans on, part 3 of 15: D E F G H J TB TC. -/
import Derived.Deep.AppendLies
import Derived.Deep.LoopGhost
import Derived.OneCell
import Derived.StillTailTactics
import Derived.WalkSpells
import Derived.Test.YtihmmmodimionaaBa01
import Derived.Test.YtihmmmodimionaaBa02
namespace Go.Proofs.Ytihmmmodimionaa.Lx
open Go.RowKit

theorem take_int (R : Nat) (b : ByteArray) (m : Int) (n : Nat) (l c : Int) (w : World) (hm : m = n) (hn : n ≤ b.size) (hl : 1 ≤ l) (hl2 : l + n ≤ 1000000) (hc : 1 ≤ c) (hc2 : c + n ≤ 1000000) (hr : RdR w R b l c) :
    Calls Try.prog 53 #[.pointer (some ⟨R, 0, none⟩), .int .i64 m] w fun e w' => e = .returned (.string (b.extract 0 n)) ∧ Only R w w' ∧ RdR w' R (b.extract n b.size) (adv ((T b).take n) l c).1 (adv ((T b).take n) l c).2 := by
  subst hm
  exact take_any R b n l c w hn hl hl2 hc hc2 hr

abbrev TokR (w : World) (g : Nat) (k : Int) (t : ByteArray) (l c : Int) : Prop := w.heap[g]? = some (.cells #[.int .u8 k, .string t, .int .i64 l, .int .i64 c] 34 (0, 0))
/-- what stands while token runs: its own three blocks, the reader -/
structure TS (w : World) (R : Nat) (b : ByteArray) (l c l0 c0 : Int) (k : Int) (t : ByteArray) (wv : World) : Prop where
  v : wv.heap[w.heap.size]? = some (.cells #[.pointer (some ⟨R, 0, none⟩)] 67 (0, 0))
  z : TokR wv (w.heap.size + 1) 0 { data := #[] } 0 0
  t_ : TokR wv (w.heap.size + 2) k t l0 c0
  r : RdR wv R b l c
  o : Only R w wv
  lt : R < w.heap.size
theorem only_alloc {R : Nat} {a w : World} (h : Only R a w) (o : Obj) : Only R a (w.alloc o) :=
  ⟨h.os, h.tape, h.output, Nat.le_trans h.size (by simp), fun i hi hne => (Below.heap_alloc w o i (Nat.lt_of_lt_of_le hi h.size)).trans (h.block i hi hne)⟩
theorem only_trans {R : Nat} {a b c : World} (h : Only R a b) (k : Only R b c) : Only R a c :=
  ⟨k.os.trans h.os, k.tape.trans h.tape, k.output.trans h.output, Nat.le_trans h.size k.size, fun i hi hne => (k.block i (Nat.lt_of_lt_of_le hi h.size) hne).trans (h.block i hi hne)⟩
theorem only_drew {R : Nat} {a w : World} (h : Only R a w) : Only R a w.drew := ⟨h.os, h.tape, h.output, h.size, h.block⟩
theorem only_new {R g : Nat} {a w : World} (h : Only R a w) (hg : a.heap.size ≤ g) (j : Nat) (u : Value) : Only R a (w.setCell ⟨g, j, none⟩ u) :=
  ⟨h.os, h.tape, h.output, by simpa [World.setCell] using h.size, fun i hi hne => (Below.heap_setCell w ⟨g, j, none⟩ u i (by show i ≠ g; omega)).trans (h.block i hi hne)⟩

abbrev W3 (w : World) (R : Nat) (l c : Int) : World := ((w.alloc (Obj.cells #[.pointer (some ⟨R, 0, none⟩)] 67)).alloc (Obj.cells #[.int .u8 0, .string { data := #[] }, .int .i64 0, .int .i64 0] 34)).alloc (Obj.cells #[.int .u8 1, .string { data := #[] }, .int .i64 l, .int .i64 c] 34)
theorem ts_start (w : World) (R : Nat) (b : ByteArray) (l c : Int) (hr : RdR w R b l c) : TS w R b l c l c 1 { data := #[] } (W3 w R l c) := by
  refine ⟨heap_old (heap_old (heap_new _ _)), ?_, ?_, heap_old (heap_old (heap_old hr)), only_alloc (only_alloc (only_alloc (only_refl _ _) _) _) _, lt_heap hr⟩
  · exact heap_old (heap_new2 _ _ _)
  · have h := heap_new2 (w.alloc (Obj.cells #[.pointer (some ⟨R, 0, none⟩)] 67)) (Obj.cells #[.int .u8 0, .string { data := #[] }, .int .i64 0, .int .i64 0] 34) (Obj.cells #[.int .u8 1, .string { data := #[] }, .int .i64 l, .int .i64 c] 34)
    rwa [World.size_alloc] at h
/-- behind take -/
theorem TS.took {w : World} {R : Nat} {b b' : ByteArray} {l c l0 c0 k l' c' : Int} {t : ByteArray} {wv wx : World} (h : TS w R b l c l0 c0 k t wv) (ho : Only R wv wx) (hr : RdR wx R b' l' c') : TS w R b' l' c' l0 c0 k t wx :=
  ⟨only_heap ho h.v (by have := h.lt; omega), only_heap ho h.z (by have := h.lt; omega), only_heap ho h.t_ (by have := h.lt; omega), hr, only_trans h.o ho, h.lt⟩
theorem TS.drew {w : World} {R : Nat} {b : ByteArray} {l c l0 c0 k : Int} {t : ByteArray} {wv : World} (h : TS w R b l c l0 c0 k t wv) : TS w R b l c l0 c0 k t wv.drew := ⟨h.v, h.z, h.t_, h.r, only_drew h.o, h.lt⟩
/-- a store into the token's own block -/
theorem TS.set_t {w : World} {R : Nat} {b : ByteArray} {l c l0 c0 k : Int} {t : ByteArray} {wv : World} (h : TS w R b l c l0 c0 k t wv) (t' : ByteArray) : TS w R b l c l0 c0 k t' (wv.setCell ⟨w.heap.size + 2, 1, none⟩ (.string t')) := by
  have hlt := h.lt
  exact ⟨heap_far h.v (by simp), heap_far h.z (by simp), heap_set h.t_, heap_far h.r (by show R ≠ _; simp only; omega), only_new h.o (by simp) _ _, hlt⟩
theorem TS.set_k {w : World} {R : Nat} {b : ByteArray} {l c l0 c0 k : Int} {t : ByteArray} {wv : World} (h : TS w R b l c l0 c0 k t wv) (k' : Int) : TS w R b l c l0 c0 k' t (wv.setCell ⟨w.heap.size + 2, 0, none⟩ (.int .u8 k')) := by
  have hlt := h.lt
  exact ⟨heap_far h.v (by simp), heap_far h.z (by simp), heap_set h.t_, heap_far h.r (by show R ≠ _; simp only; omega), only_new h.o (by simp) _ _, hlt⟩
/-- the world behind the last store: the result's four cells -/
theorem TS.out {w : World} {R : Nat} {b : ByteArray} {l c l0 c0 k : Int} {t : ByteArray} {wv : World} (h : TS w R b l c l0 c0 k t wv) (u0 u1 u2 u3 : Value) :
    Only R w ((((wv.setCell ⟨w.heap.size + 1, 0, none⟩ u0).setCell ⟨w.heap.size + 1, 1, none⟩ u1).setCell ⟨w.heap.size + 1, 2, none⟩ u2).setCell ⟨w.heap.size + 1, 3, none⟩ u3) ∧ RdR ((((wv.setCell ⟨w.heap.size + 1, 0, none⟩ u0).setCell ⟨w.heap.size + 1, 1, none⟩ u1).setCell ⟨w.heap.size + 1, 2, none⟩ u2).setCell ⟨w.heap.size + 1, 3, none⟩ u3) R b l c := by
  have hlt := h.lt
  refine ⟨only_new (only_new (only_new (only_new h.o (by simp) _ _) (by simp) _ _) (by simp) _ _) (by simp) _ _, ?_⟩
  exact heap_far (heap_far (heap_far (heap_far h.r (by show R ≠ _; simp only; omega)) (by show R ≠ _; simp only; omega)) (by show R ≠ _; simp only; omega)) (by show R ≠ _; simp only; omega)

/-- what token leaves, by the plain step -/
def TokPost (R : Nat) (b : ByteArray) (l c : Int) (w : World) (e : Ending) (w' : World) : Prop :=
  Only R w w' ∧ (((step (T b)).err = true ∧ e = .returned (.tuple #[.agg #[.int .u8 1, .string { data := #[] }, .int .i64 l, .int .i64 c], .bool false, .int .i64 71])) ∨
    ((step (T b)).err = false ∧ ∃ tb b', T tb = (step (T b)).t ∧ T b' = (T b).drop (step (T b)).n ∧ e = .returned (.tuple #[.agg #[.int .u8 (step (T b)).k, .string tb, .int .i64 l, .int .i64 c], .bool (step (T b)).is, .int .i64 0]) ∧
      RdR w' R b' (adv ((T b).take (step (T b)).n) l c).1 (adv ((T b).take (step (T b)).n) l c).2))

set_option maxHeartbeats 1000000 in
theorem token_blank (R : Nat) (b : ByteArray) (l c : Int) (w : World) (hb0 : 0 < b.size) (hbs : b.size ≤ 65536) (hl : 1 ≤ l) (hl2 : l + b.size ≤ 1000000) (hc : 1 ≤ c) (hc2 : c + b.size ≤ 1000000) (hr : RdR w R b l c)
    (hx : (b[0].toNat : Int) = 32 ∨ (b[0].toNat : Int) = 10) (hst : step (T b) = ⟨false, false, 1, [], 1⟩) :
    Calls Try.prog 29 #[.pointer (some ⟨R, 0, none⟩)] w (TokPost R b l c w) := by
  have q0 := fun o => cell_heap (j := 0) (heap_old (p := o) hr) rfl
  have q1 := fun o o2 => cell_heap (j := 1) (heap_old (p := o2) (heap_old (p := o) hr)) rfl
  have q2 := fun o o2 => cell_heap (j := 2) (heap_old (p := o2) (heap_old (p := o) hr)) rfl
  have q3 := fun o o2 o3 => cell_heap (j := 0) (heap_old (p := o3) (heap_old (p := o2) (heap_old (p := o) hr))) rfl
  have HT0 := hide (ts_start w R b l c hr)
  have H0 := hide (fun W => Try.strings_IndexByte ⟨#[123, 125, 59, 91, 93]⟩ b[0].toNat W)
  have HST := hide hst
  clear hst
  rcases hx with hx | hx
  · have hx1 := beq_it hx
    clear hx
    clear hr
    go_enter Try.func29, Try.ntmps29
    go_wp2_with fail
    refine (H0.out _).mono ?_; rintro e w1 ⟨rfl, hw1⟩
    have HT1 := hide (show TS w R b l c l c 1 { data := #[] } w1 by rw [hw1]; exact HT0.out)
    clear hw1 q0 q1 q2 q3 HT0 H0
    have v0 := cell_heap (j := 0) HT1.out.v rfl
    have t0 := cell_heap (j := 0) HT1.out.t_ rfl
    have t1 := cell_heap (j := 1) HT1.out.t_ rfl
    have t2 := cell_heap (j := 2) HT1.out.t_ rfl
    have t3 := cell_heap (j := 3) HT1.out.t_ rfl
    have z0 := cell_heap (j := 0) HT1.out.z rfl
    have z1 := cell_heap (j := 1) HT1.out.z rfl
    have z2 := cell_heap (j := 2) HT1.out.z rfl
    have z3 := cell_heap (j := 3) HT1.out.z rfl
    have fz0 := frozen_heap (j := 0) HT1.out.z
    have fz1 := frozen_heap (j := 1) HT1.out.z
    have fz2 := frozen_heap (j := 2) HT1.out.z
    have fz3 := frozen_heap (j := 3) HT1.out.z
    have r0 := cell_heap (j := 0) HT1.out.r rfl
    go_wp2_with fail
    refine (take_int R b 1 1 l c w1 (by omega) (by omega) hl (by omega) hc (by omega) HT1.out.r).mono ?_; rintro e w2 ⟨rfl, ho, hr2⟩
    have HT2 := hide (HT1.out.took ho hr2)
    clear ho hr2 HT1
    clear v0 t0 t1 t2 t3 z0 z1 z2 z3 fz0 fz1 fz2 fz3 r0
    have v0 := cell_heap (j := 0) HT2.out.v rfl
    have t0 := cell_heap (j := 0) HT2.out.t_ rfl
    have t1 := cell_heap (j := 1) HT2.out.t_ rfl
    have t2 := cell_heap (j := 2) HT2.out.t_ rfl
    have t3 := cell_heap (j := 3) HT2.out.t_ rfl
    have z0 := cell_heap (j := 0) HT2.out.z rfl
    have z1 := cell_heap (j := 1) HT2.out.z rfl
    have z2 := cell_heap (j := 2) HT2.out.z rfl
    have z3 := cell_heap (j := 3) HT2.out.z rfl
    have fz0 := frozen_heap (j := 0) HT2.out.z
    have fz1 := frozen_heap (j := 1) HT2.out.z
    have fz2 := frozen_heap (j := 2) HT2.out.z
    have fz3 := frozen_heap (j := 3) HT2.out.z
    have r0 := cell_heap (j := 0) HT2.out.r rfl
    go_wp2_with fail
    refine bodyPost_ret (v := .tuple #[.agg #[.int .u8 1, .string { data := #[] }, .int .i64 l, .int .i64 c], .bool false, .int .i64 0]) (by simp [results, Try.results29, go_sem, z0, z1, z2, z3]) rfl ?_
    refine ⟨(HT2.out.out _ _ _ _).1, .inr ?_⟩
    rw [HST.out]
    exact ⟨rfl, _, _, rfl, T_tail b 1, rfl, (HT2.out.out _ _ _ _).2⟩
  · have hx1 := beq_it hx
    have hx2 : ((b[0].toNat : Int) == 32) = false := beq_if (by omega)
    clear hx
    clear hr
    go_enter Try.func29, Try.ntmps29
    go_wp2_with fail
    refine (H0.out _).mono ?_; rintro e w1 ⟨rfl, hw1⟩
    have HT1 := hide (show TS w R b l c l c 1 { data := #[] } w1 by rw [hw1]; exact HT0.out)
    clear hw1 q0 q1 q2 q3 HT0 H0
    have v0 := cell_heap (j := 0) HT1.out.v rfl
    have t0 := cell_heap (j := 0) HT1.out.t_ rfl
    have t1 := cell_heap (j := 1) HT1.out.t_ rfl
    have t2 := cell_heap (j := 2) HT1.out.t_ rfl
    have t3 := cell_heap (j := 3) HT1.out.t_ rfl
    have z0 := cell_heap (j := 0) HT1.out.z rfl
    have z1 := cell_heap (j := 1) HT1.out.z rfl
    have z2 := cell_heap (j := 2) HT1.out.z rfl
    have z3 := cell_heap (j := 3) HT1.out.z rfl
    have fz0 := frozen_heap (j := 0) HT1.out.z
    have fz1 := frozen_heap (j := 1) HT1.out.z
    have fz2 := frozen_heap (j := 2) HT1.out.z
    have fz3 := frozen_heap (j := 3) HT1.out.z
    have r0 := cell_heap (j := 0) HT1.out.r rfl
    go_wp2_with fail
    refine (take_int R b 1 1 l c w1 (by omega) (by omega) hl (by omega) hc (by omega) HT1.out.r).mono ?_; rintro e w2 ⟨rfl, ho, hr2⟩
    have HT2 := hide (HT1.out.took ho hr2)
    clear ho hr2 HT1
    clear v0 t0 t1 t2 t3 z0 z1 z2 z3 fz0 fz1 fz2 fz3 r0
    have v0 := cell_heap (j := 0) HT2.out.v rfl
    have t0 := cell_heap (j := 0) HT2.out.t_ rfl
    have t1 := cell_heap (j := 1) HT2.out.t_ rfl
    have t2 := cell_heap (j := 2) HT2.out.t_ rfl
    have t3 := cell_heap (j := 3) HT2.out.t_ rfl
    have z0 := cell_heap (j := 0) HT2.out.z rfl
    have z1 := cell_heap (j := 1) HT2.out.z rfl
    have z2 := cell_heap (j := 2) HT2.out.z rfl
    have z3 := cell_heap (j := 3) HT2.out.z rfl
    have fz0 := frozen_heap (j := 0) HT2.out.z
    have fz1 := frozen_heap (j := 1) HT2.out.z
    have fz2 := frozen_heap (j := 2) HT2.out.z
    have fz3 := frozen_heap (j := 3) HT2.out.z
    have r0 := cell_heap (j := 0) HT2.out.r rfl
    go_wp2_with fail
    refine bodyPost_ret (v := .tuple #[.agg #[.int .u8 1, .string { data := #[] }, .int .i64 l, .int .i64 c], .bool false, .int .i64 0]) (by simp [results, Try.results29, go_sem, z0, z1, z2, z3]) rfl ?_
    refine ⟨(HT2.out.out _ _ _ _).1, .inr ?_⟩
    rw [HST.out]
    exact ⟨rfl, _, _, rfl, T_tail b 1, rfl, (HT2.out.out _ _ _ _).2⟩

theorem index_bound (sub : List UInt8) : ∀ s : List UInt8, 0 ≤ Lib.index s sub → (Lib.index s sub).toNat + sub.length ≤ s.length := by
  intro s
  induction s with
  | nil =>
    intro h
    unfold Lib.index at h ⊢
    split at h
    · rename_i he
      rw [if_pos he]
      simp only [List.isEmpty_iff] at he
      subst he; simp
    · omega
  | cons x xs ih =>
    intro h
    unfold Lib.index at h ⊢
    split at h
    · rename_i hp
      rw [if_pos hp]
      have := (List.isPrefixOf_iff_prefix.1 hp).length_le
      simpa using this
    · rename_i hp
      rw [if_neg hp]
      have hge := Lib.index_ge xs sub
      split at h
      · omega
      · rename_i h1
        rw [if_neg h1]
        have h2 : ¬ Lib.index xs sub = -1 := by simpa using h1
        have := ih (by omega)
        simp only [List.length_cons]
        omega
theorem indexAny_bound (cs : List UInt8) : ∀ s : List UInt8, 0 ≤ Lib.indexAny s cs → (Lib.indexAny s cs).toNat < s.length := by
  intro s
  induction s with
  | nil => intro h; simp [Lib.indexAny] at h
  | cons x xs ih =>
    intro h
    unfold Lib.indexAny at h ⊢
    split at h
    · rename_i hp
      rw [if_pos hp]; simp
    · rename_i hp
      rw [if_neg hp]
      have hge := Lib.indexAny_ge cs xs
      split at h
      · omega
      · rename_i h1
        rw [if_neg h1]
        have h2 : ¬ Lib.indexAny xs cs = -1 := by simpa using h1
        have := ih (by omega)
        simp only [List.length_cons]
        omega
theorem only_cell {R : Nat} {w w' : World} (h : Only R w w') {g j : Nat} {u : Value} (hc : w.cell? ⟨g, j, none⟩ = some u) (hne : g ≠ R) : w'.cell? ⟨g, j, none⟩ = some u := by
  rw [World.cell?_of_block (w := w) (h.block g (lt_of_cell hc) (fun e => hne (by injection e)))]
  exact hc
theorem only_of_below {R : Nat} {w w' : World} (h : Below w.heap.size w w') : Only R w w' := ⟨h.os, h.tape, h.output, h.size, fun i hi _ => h.block i hi⟩

set_option maxRecDepth 100000 in
set_option maxHeartbeats 1000000 in
theorem token_hash (R : Nat) (b : ByteArray) (l c : Int) (w : World) (hb0 : 0 < b.size) (hbs : b.size ≤ 65536) (hl : 1 ≤ l) (hl2 : l + b.size ≤ 1000000) (hc : 1 ≤ c) (hc2 : c + b.size ≤ 1000000) (hr : RdR w R b l c)
    (hx : (b[0].toNat : Int) = 35) (hst : step (T b) = ⟨false, false, 1, [], firstN is10 (T b)⟩) :
    Calls Try.prog 29 #[.pointer (some ⟨R, 0, none⟩)] w (TokPost R b l c w) := by
  have q0 := fun o => cell_heap (j := 0) (heap_old (p := o) hr) rfl
  have q1 := fun o o2 => cell_heap (j := 1) (heap_old (p := o2) (heap_old (p := o) hr)) rfl
  have q2 := fun o o2 => cell_heap (j := 2) (heap_old (p := o2) (heap_old (p := o) hr)) rfl
  have q3 := fun o o2 o3 => cell_heap (j := 0) (heap_old (p := o3) (heap_old (p := o2) (heap_old (p := o) hr))) rfl
  have HT0 := hide (ts_start w R b l c hr)
  have H0 := hide (fun W => Try.strings_IndexByte ⟨#[123, 125, 59, 91, 93]⟩ b[0].toNat W)
  have HST := hide hst
  clear hst
  have hx1 : ((b[0].toNat : Int) == 32) = false := beq_if (by omega)
  have hx2 : ((b[0].toNat : Int) == 10) = false := beq_if (by omega)
  have hx3 := beq_it hx
  clear hx
  clear hr
  go_enter Try.func29, Try.ntmps29
  go_wp2_with fail
  refine (H0.out _).mono ?_; rintro e w1 ⟨rfl, hw1⟩
  have HT1 := hide (show TS w R b l c l c 1 { data := #[] } w1 by rw [hw1]; exact HT0.out)
  clear hw1 q0 q1 q2 q3 HT0 H0
  have v0 := cell_heap (j := 0) HT1.out.v rfl
  have t0 := cell_heap (j := 0) HT1.out.t_ rfl
  have t1 := cell_heap (j := 1) HT1.out.t_ rfl
  have t2 := cell_heap (j := 2) HT1.out.t_ rfl
  have t3 := cell_heap (j := 3) HT1.out.t_ rfl
  have z0 := cell_heap (j := 0) HT1.out.z rfl
  have z1 := cell_heap (j := 1) HT1.out.z rfl
  have z2 := cell_heap (j := 2) HT1.out.z rfl
  have z3 := cell_heap (j := 3) HT1.out.z rfl
  have fz0 := frozen_heap (j := 0) HT1.out.z
  have fz1 := frozen_heap (j := 1) HT1.out.z
  have fz2 := frozen_heap (j := 2) HT1.out.z
  have fz3 := frozen_heap (j := 3) HT1.out.z
  have r0 := cell_heap (j := 0) HT1.out.r rfl
  have HN := hide (firstN_le is10 (T b))
  have HU := hide (until1_any R w.heap.size b w1.drew (by omega) v0 r0)
  generalize hgn : firstN is10 (T b) = n at *
  have HGN := hide hgn
  clear hgn
  have hn : n ≤ b.size := by have := HN.out; rw [T_len] at this; exact this
  go_wp2_with fail
  refine wp_region_still_tail 4 (by kernel_rfl) (by kernel_rfl) ?_
  simp only [List.take_succ_cons, List.take_zero, List.drop_succ_cons, List.drop_zero]
  repeat still_step
  still_call (calls_flip HU.out)
  refine wpStill_nil ?_
  go_wp2_with fail
  refine (take_int R b _ n l c _ rfl hn hl (by omega) hc (by omega) HT1.out.drew.r).mono ?_; rintro e w2 ⟨rfl, ho, hr2⟩
  have HT2 := hide (HT1.out.drew.took ho hr2)
  clear ho hr2 HT1
  clear v0 t0 t1 t2 t3 z0 z1 z2 z3 fz0 fz1 fz2 fz3 r0
  have v0 := cell_heap (j := 0) HT2.out.v rfl
  have t0 := cell_heap (j := 0) HT2.out.t_ rfl
  have t1 := cell_heap (j := 1) HT2.out.t_ rfl
  have t2 := cell_heap (j := 2) HT2.out.t_ rfl
  have t3 := cell_heap (j := 3) HT2.out.t_ rfl
  have z0 := cell_heap (j := 0) HT2.out.z rfl
  have z1 := cell_heap (j := 1) HT2.out.z rfl
  have z2 := cell_heap (j := 2) HT2.out.z rfl
  have z3 := cell_heap (j := 3) HT2.out.z rfl
  have fz0 := frozen_heap (j := 0) HT2.out.z
  have fz1 := frozen_heap (j := 1) HT2.out.z
  have fz2 := frozen_heap (j := 2) HT2.out.z
  have fz3 := frozen_heap (j := 3) HT2.out.z
  have r0 := cell_heap (j := 0) HT2.out.r rfl
  go_wp2_with fail
  refine bodyPost_ret (v := .tuple #[.agg #[.int .u8 1, .string { data := #[] }, .int .i64 l, .int .i64 c], .bool false, .int .i64 0]) (by simp [results, Try.results29, go_sem, z0, z1, z2, z3]) rfl ?_
  refine ⟨(HT2.out.out _ _ _ _).1, .inr ?_⟩
  rw [HST.out]
  exact ⟨rfl, _, _, rfl, T_tail b n, rfl, (HT2.out.out _ _ _ _).2⟩
end Go.Proofs.Ytihmmmodimionaa.Lx
namespace Go.Proofs.Ytihmmmodimionaa.Lx
open Go.RowKit

theorem pre_size {b : ByteArray} (h : Lib.hasPrefix (T b) [47, 42] = true) : 2 ≤ b.size := by
  have := (List.isPrefixOf_iff_prefix.1 h).length_le
  rw [T_len] at this
  simpa using this

set_option maxRecDepth 100000 in
set_option maxHeartbeats 1000000 in
theorem token_open (R : Nat) (b : ByteArray) (l c : Int) (w : World) (hb0 : 0 < b.size) (hbs : b.size ≤ 65536) (hl : 1 ≤ l) (hl2 : l + b.size ≤ 1000000) (hc : 1 ≤ c) (hc2 : c + b.size ≤ 1000000) (hr : RdR w R b l c)
    (hx : ¬ (b[0].toNat : Int) = 32 ∧ ¬ (b[0].toNat : Int) = 10 ∧ ¬ (b[0].toNat : Int) = 35) (hR : R ≠ 0) (m : Int) (hm : w.cell? ⟨0, 0, none⟩ = some (.int .i64 m)) (hp : Lib.hasPrefix (T b) [47, 42] = true) (hr0 : Lib.index ((T b).drop 2) [42, 47] < 0) (hst : step (T b) = ⟨true, false, 1, [], 0⟩) :
    Calls Try.prog 29 #[.pointer (some ⟨R, 0, none⟩)] w (TokPost R b l c w) := by
  have q0 := fun o => cell_heap (j := 0) (heap_old (p := o) hr) rfl
  have q1 := fun o o2 => cell_heap (j := 1) (heap_old (p := o2) (heap_old (p := o) hr)) rfl
  have q2 := fun o o2 => cell_heap (j := 2) (heap_old (p := o2) (heap_old (p := o) hr)) rfl
  have q3 := fun o o2 o3 => cell_heap (j := 0) (heap_old (p := o3) (heap_old (p := o2) (heap_old (p := o) hr))) rfl
  have HT0 := hide (ts_start w R b l c hr)
  have H0 := hide (fun W => Try.strings_IndexByte ⟨#[123, 125, 59, 91, 93]⟩ b[0].toNat W)
  have HST := hide hst
  clear hst
  obtain ⟨hx1', hx2', hx3'⟩ := hx
  have hx1 : ((b[0].toNat : Int) == 32) = false := beq_if (by omega)
  have hx2 : ((b[0].toNat : Int) == 10) = false := beq_if (by omega)
  have hx3 : ((b[0].toNat : Int) == 35) = false := beq_if (by omega)
  clear hr
  go_enter Try.func29, Try.ntmps29
  go_wp2_with fail
  refine (H0.out _).mono ?_; rintro e w1 ⟨rfl, hw1⟩
  have HT1 := hide (show TS w R b l c l c 1 { data := #[] } w1 by rw [hw1]; exact HT0.out)
  clear hw1 q0 q1 q2 q3 HT0 H0
  have v0 := cell_heap (j := 0) HT1.out.v rfl
  have t0 := cell_heap (j := 0) HT1.out.t_ rfl
  have t1 := cell_heap (j := 1) HT1.out.t_ rfl
  have t2 := cell_heap (j := 2) HT1.out.t_ rfl
  have t3 := cell_heap (j := 3) HT1.out.t_ rfl
  have z0 := cell_heap (j := 0) HT1.out.z rfl
  have z1 := cell_heap (j := 1) HT1.out.z rfl
  have z2 := cell_heap (j := 2) HT1.out.z rfl
  have z3 := cell_heap (j := 3) HT1.out.z rfl
  have fz0 := frozen_heap (j := 0) HT1.out.z
  have fz1 := frozen_heap (j := 1) HT1.out.z
  have fz2 := frozen_heap (j := 2) HT1.out.z
  have fz3 := frozen_heap (j := 3) HT1.out.z
  have r0 := cell_heap (j := 0) HT1.out.r rfl
  have hm1 : w1.cell? ⟨0, 0, none⟩ = some (.int .i64 m) := only_cell HT1.out.o hm (fun e => hR e.symm)
  have hsz := pre_size hp
  have hpre := Try.strings_HasPrefix b ⟨#[47, 42]⟩ w1
  rw [show Lib.hasPrefix b.data.toList (⟨#[47, 42]⟩ : ByteArray).data.toList = true from hp] at hpre
  have HPRE := hide hpre
  clear hpre
  have hix := Try.strings_Index (b.extract 2 b.size) ⟨#[42, 47]⟩ m w1 (by rw [size_T, T_tail, List.length_drop, T_len]; omega) hm1
  rw [show Lib.index (b.extract 2 b.size).data.toList (⟨#[42, 47]⟩ : ByteArray).data.toList = Lib.index ((T b).drop 2) [42, 47] by rw [← T_tail]; rfl] at hix
  have hbnd := index_bound [42, 47] ((T b).drop 2)
  rw [List.length_drop, T_len] at hbnd
  generalize Lib.index ((T b).drop 2) [42, 47] = r at *
  have HIX := hide hix
  clear hix hm1
  have hr0' : r < 0 := hr0
  clear hbnd hr0
  go_wp2_with fail
  refine HPRE.out.mono ?_; rintro e w2 ⟨rfl, rfl⟩
  go_wp2_with fail
  refine HIX.out.mono ?_; rintro e w3 ⟨rfl, rfl⟩
  go_wp2_with fail
  refine bodyPost_ret (v := .tuple #[.agg #[.int .u8 1, .string { data := #[] }, .int .i64 l, .int .i64 c], .bool false, .int .i64 71]) (by simp [results, Try.results29, go_sem, z0, z1, z2, z3]) rfl ?_
  refine ⟨(HT1.out.out _ _ _ _).1, .inl ?_⟩
  rw [HST.out]
  exact ⟨rfl, rfl⟩

set_option maxRecDepth 100000 in
set_option maxHeartbeats 1000000 in
theorem token_comment (R : Nat) (b : ByteArray) (l c : Int) (w : World) (hb0 : 0 < b.size) (hbs : b.size ≤ 65536) (hl : 1 ≤ l) (hl2 : l + b.size ≤ 1000000) (hc : 1 ≤ c) (hc2 : c + b.size ≤ 1000000) (hr : RdR w R b l c)
    (hx : ¬ (b[0].toNat : Int) = 32 ∧ ¬ (b[0].toNat : Int) = 10 ∧ ¬ (b[0].toNat : Int) = 35) (hR : R ≠ 0) (m : Int) (hm : w.cell? ⟨0, 0, none⟩ = some (.int .i64 m)) (hp : Lib.hasPrefix (T b) [47, 42] = true) (hr0 : 0 ≤ Lib.index ((T b).drop 2) [42, 47]) (hst : step (T b) = ⟨false, false, 1, [], (Lib.index ((T b).drop 2) [42, 47]).toNat + 4⟩) :
    Calls Try.prog 29 #[.pointer (some ⟨R, 0, none⟩)] w (TokPost R b l c w) := by
  have q0 := fun o => cell_heap (j := 0) (heap_old (p := o) hr) rfl
  have q1 := fun o o2 => cell_heap (j := 1) (heap_old (p := o2) (heap_old (p := o) hr)) rfl
  have q2 := fun o o2 => cell_heap (j := 2) (heap_old (p := o2) (heap_old (p := o) hr)) rfl
  have q3 := fun o o2 o3 => cell_heap (j := 0) (heap_old (p := o3) (heap_old (p := o2) (heap_old (p := o) hr))) rfl
  have HT0 := hide (ts_start w R b l c hr)
  have H0 := hide (fun W => Try.strings_IndexByte ⟨#[123, 125, 59, 91, 93]⟩ b[0].toNat W)
  have HST := hide hst
  clear hst
  obtain ⟨hx1', hx2', hx3'⟩ := hx
  have hx1 : ((b[0].toNat : Int) == 32) = false := beq_if (by omega)
  have hx2 : ((b[0].toNat : Int) == 10) = false := beq_if (by omega)
  have hx3 : ((b[0].toNat : Int) == 35) = false := beq_if (by omega)
  clear hr
  go_enter Try.func29, Try.ntmps29
  go_wp2_with fail
  refine (H0.out _).mono ?_; rintro e w1 ⟨rfl, hw1⟩
  have HT1 := hide (show TS w R b l c l c 1 { data := #[] } w1 by rw [hw1]; exact HT0.out)
  clear hw1 q0 q1 q2 q3 HT0 H0
  have v0 := cell_heap (j := 0) HT1.out.v rfl
  have t0 := cell_heap (j := 0) HT1.out.t_ rfl
  have t1 := cell_heap (j := 1) HT1.out.t_ rfl
  have t2 := cell_heap (j := 2) HT1.out.t_ rfl
  have t3 := cell_heap (j := 3) HT1.out.t_ rfl
  have z0 := cell_heap (j := 0) HT1.out.z rfl
  have z1 := cell_heap (j := 1) HT1.out.z rfl
  have z2 := cell_heap (j := 2) HT1.out.z rfl
  have z3 := cell_heap (j := 3) HT1.out.z rfl
  have fz0 := frozen_heap (j := 0) HT1.out.z
  have fz1 := frozen_heap (j := 1) HT1.out.z
  have fz2 := frozen_heap (j := 2) HT1.out.z
  have fz3 := frozen_heap (j := 3) HT1.out.z
  have r0 := cell_heap (j := 0) HT1.out.r rfl
  have hm1 : w1.cell? ⟨0, 0, none⟩ = some (.int .i64 m) := only_cell HT1.out.o hm (fun e => hR e.symm)
  have hsz := pre_size hp
  have hpre := Try.strings_HasPrefix b ⟨#[47, 42]⟩ w1
  rw [show Lib.hasPrefix b.data.toList (⟨#[47, 42]⟩ : ByteArray).data.toList = true from hp] at hpre
  have HPRE := hide hpre
  clear hpre
  have hix := Try.strings_Index (b.extract 2 b.size) ⟨#[42, 47]⟩ m w1 (by rw [size_T, T_tail, List.length_drop, T_len]; omega) hm1
  rw [show Lib.index (b.extract 2 b.size).data.toList (⟨#[42, 47]⟩ : ByteArray).data.toList = Lib.index ((T b).drop 2) [42, 47] by rw [← T_tail]; rfl] at hix
  have hbnd := index_bound [42, 47] ((T b).drop 2)
  rw [List.length_drop, T_len] at hbnd
  generalize Lib.index ((T b).drop 2) [42, 47] = r at *
  have HIX := hide hix
  clear hix hm1
  obtain ⟨n, rfl⟩ := Int.eq_ofNat_of_zero_le hr0
  have hn : n + 4 ≤ b.size := by have := hbnd hr0; simp at this; omega
  clear hbnd hr0
  go_wp2_with fail
  refine HPRE.out.mono ?_; rintro e w2 ⟨rfl, rfl⟩
  go_wp2_with fail
  refine HIX.out.mono ?_; rintro e w3 ⟨rfl, rfl⟩
  go_wp2_with fail
  refine (take_int R b _ (n + 4) l c _ (by omega) hn hl (by omega) hc (by omega) HT1.out.r).mono ?_; rintro e w2 ⟨rfl, ho, hr2⟩
  have HT2 := hide (HT1.out.took ho hr2)
  clear ho hr2 HT1 HPRE HIX
  clear v0 t0 t1 t2 t3 z0 z1 z2 z3 fz0 fz1 fz2 fz3 r0
  have v0 := cell_heap (j := 0) HT2.out.v rfl
  have t0 := cell_heap (j := 0) HT2.out.t_ rfl
  have t1 := cell_heap (j := 1) HT2.out.t_ rfl
  have t2 := cell_heap (j := 2) HT2.out.t_ rfl
  have t3 := cell_heap (j := 3) HT2.out.t_ rfl
  have z0 := cell_heap (j := 0) HT2.out.z rfl
  have z1 := cell_heap (j := 1) HT2.out.z rfl
  have z2 := cell_heap (j := 2) HT2.out.z rfl
  have z3 := cell_heap (j := 3) HT2.out.z rfl
  have fz0 := frozen_heap (j := 0) HT2.out.z
  have fz1 := frozen_heap (j := 1) HT2.out.z
  have fz2 := frozen_heap (j := 2) HT2.out.z
  have fz3 := frozen_heap (j := 3) HT2.out.z
  have r0 := cell_heap (j := 0) HT2.out.r rfl
  go_wp2_with fail
  refine bodyPost_ret (v := .tuple #[.agg #[.int .u8 1, .string { data := #[] }, .int .i64 l, .int .i64 c], .bool false, .int .i64 0]) (by simp [results, Try.results29, go_sem, z0, z1, z2, z3]) rfl ?_
  refine ⟨(HT2.out.out _ _ _ _).1, .inr ?_⟩
  rw [HST.out]
  exact ⟨rfl, _, _, rfl, T_tail b (n + 4), rfl, (HT2.out.out _ _ _ _).2⟩
end Go.Proofs.Ytihmmmodimionaa.Lx
namespace Go.Proofs.Ytihmmmodimionaa.Lx
open Go.RowKit

set_option maxRecDepth 100000 in
set_option maxHeartbeats 1000000 in
theorem token_q1 (R : Nat) (b : ByteArray) (l c : Int) (w : World) (hb0 : 0 < b.size) (hbs : b.size ≤ 65536) (hl : 1 ≤ l) (hl2 : l + b.size ≤ 1000000) (hc : 1 ≤ c) (hc2 : c + b.size ≤ 1000000) (hr : RdR w R b l c)
    (hx : (b[0].toNat : Int) = 34) (hasc : ∀ (j : Nat) (x : UInt8), ((T b).drop 1)[j]? = some x → x.toNat < 128) (hp : Lib.hasPrefix (T b) [47, 42] = false) (hr0 : Lib.indexAny ((T b).drop 1) [34, 10] < 0) (hst : step (T b) = ⟨true, false, 1, [], 0⟩) :
    Calls Try.prog 29 #[.pointer (some ⟨R, 0, none⟩)] w (TokPost R b l c w) := by
  have q0 := fun o => cell_heap (j := 0) (heap_old (p := o) hr) rfl
  have q1 := fun o o2 => cell_heap (j := 1) (heap_old (p := o2) (heap_old (p := o) hr)) rfl
  have q2 := fun o o2 => cell_heap (j := 2) (heap_old (p := o2) (heap_old (p := o) hr)) rfl
  have q3 := fun o o2 o3 => cell_heap (j := 0) (heap_old (p := o3) (heap_old (p := o2) (heap_old (p := o) hr))) rfl
  have HT0 := hide (ts_start w R b l c hr)
  have H0 := hide (fun W => Try.strings_IndexByte ⟨#[123, 125, 59, 91, 93]⟩ b[0].toNat W)
  have HST := hide hst
  clear hst
  have hx1 : ((b[0].toNat : Int) == 32) = false := beq_if (by omega)
  have hx2 : ((b[0].toNat : Int) == 10) = false := beq_if (by omega)
  have hx3 : ((b[0].toNat : Int) == 35) = false := beq_if (by omega)
  have hx4 := beq_it hx
  clear hx
  clear hr
  go_enter Try.func29, Try.ntmps29
  go_wp2_with fail
  refine (H0.out _).mono ?_; rintro e w1 ⟨rfl, hw1⟩
  have HT1 := hide (show TS w R b l c l c 1 { data := #[] } w1 by rw [hw1]; exact HT0.out)
  clear hw1 q0 q1 q2 q3 HT0 H0
  have v0 := cell_heap (j := 0) HT1.out.v rfl
  have t0 := cell_heap (j := 0) HT1.out.t_ rfl
  have t1 := cell_heap (j := 1) HT1.out.t_ rfl
  have t2 := cell_heap (j := 2) HT1.out.t_ rfl
  have t3 := cell_heap (j := 3) HT1.out.t_ rfl
  have z0 := cell_heap (j := 0) HT1.out.z rfl
  have z1 := cell_heap (j := 1) HT1.out.z rfl
  have z2 := cell_heap (j := 2) HT1.out.z rfl
  have z3 := cell_heap (j := 3) HT1.out.z rfl
  have fz0 := frozen_heap (j := 0) HT1.out.z
  have fz1 := frozen_heap (j := 1) HT1.out.z
  have fz2 := frozen_heap (j := 2) HT1.out.z
  have fz3 := frozen_heap (j := 3) HT1.out.z
  have r0 := cell_heap (j := 0) HT1.out.r rfl
  have hpre := Try.strings_HasPrefix b ⟨#[47, 42]⟩ w1
  rw [show Lib.hasPrefix b.data.toList (⟨#[47, 42]⟩ : ByteArray).data.toList = false from hp] at hpre
  have HPRE := hide hpre
  clear hpre
  have hix := Try.strings_IndexAny_laid (b.extract 1 b.size) ⟨#[34, 10]⟩ w1 (by rw [size_T, T_tail, List.length_drop, T_len]; omega) (by decide) (by rw [show (b.extract 1 b.size).data.toList = (T b).drop 1 from T_tail b 1]; exact hasc) (by
    intro j x hj
    have hx5 : x ∈ [(34 : UInt8), 10] := List.mem_of_getElem? hj
    simp at hx5
    rcases hx5 with rfl | rfl <;> decide)
  rw [show Lib.indexAny (b.extract 1 b.size).data.toList (⟨#[34, 10]⟩ : ByteArray).data.toList = Lib.indexAny ((T b).drop 1) [34, 10] by rw [← T_tail]; rfl] at hix
  have hbnd := indexAny_bound [34, 10] ((T b).drop 1)
  rw [List.length_drop, T_len] at hbnd
  clear hasc
  generalize Lib.indexAny ((T b).drop 1) [34, 10] = r at *
  have HIX := hide hix
  clear hix
  have hr0' : r < 0 := hr0
  clear hbnd hr0
  go_wp2_with fail
  refine HPRE.out.mono ?_; rintro e w2 ⟨rfl, rfl⟩
  go_wp2_with fail
  refine HIX.out.mono ?_; rintro e w3 ⟨rfl, hb3⟩
  have HT2 := hide (HT1.out.took (only_of_below hb3) (heapB hb3 HT1.out.r))
  clear hb3 HT1 HPRE HIX
  clear v0 t0 t1 t2 t3 z0 z1 z2 z3 fz0 fz1 fz2 fz3 r0
  have v0 := cell_heap (j := 0) HT2.out.v rfl
  have t0 := cell_heap (j := 0) HT2.out.t_ rfl
  have t1 := cell_heap (j := 1) HT2.out.t_ rfl
  have t2 := cell_heap (j := 2) HT2.out.t_ rfl
  have t3 := cell_heap (j := 3) HT2.out.t_ rfl
  have z0 := cell_heap (j := 0) HT2.out.z rfl
  have z1 := cell_heap (j := 1) HT2.out.z rfl
  have z2 := cell_heap (j := 2) HT2.out.z rfl
  have z3 := cell_heap (j := 3) HT2.out.z rfl
  have fz0 := frozen_heap (j := 0) HT2.out.z
  have fz1 := frozen_heap (j := 1) HT2.out.z
  have fz2 := frozen_heap (j := 2) HT2.out.z
  have fz3 := frozen_heap (j := 3) HT2.out.z
  have r0 := cell_heap (j := 0) HT2.out.r rfl
  go_wp2_with fail
  refine bodyPost_ret (v := .tuple #[.agg #[.int .u8 1, .string { data := #[] }, .int .i64 l, .int .i64 c], .bool false, .int .i64 71]) (by simp [results, Try.results29, go_sem, z0, z1, z2, z3]) rfl ?_
  refine ⟨(HT2.out.out _ _ _ _).1, .inl ?_⟩
  rw [HST.out]
  exact ⟨rfl, rfl⟩

set_option maxRecDepth 100000 in
set_option maxHeartbeats 1000000 in
theorem token_q2 (R : Nat) (b : ByteArray) (l c : Int) (w : World) (hb0 : 0 < b.size) (hbs : b.size ≤ 65536) (hl : 1 ≤ l) (hl2 : l + b.size ≤ 1000000) (hc : 1 ≤ c) (hc2 : c + b.size ≤ 1000000) (hr : RdR w R b l c)
    (hx : (b[0].toNat : Int) = 34) (hasc : ∀ (j : Nat) (x : UInt8), ((T b).drop 1)[j]? = some x → x.toNat < 128) (hp : Lib.hasPrefix (T b) [47, 42] = false) (hr0 : 0 ≤ Lib.indexAny ((T b).drop 1) [34, 10]) (h10 : (T b).getD ((Lib.indexAny ((T b).drop 1) [34, 10]).toNat + 1) 0 = 10) (hst : step (T b) = ⟨true, false, 1, [], 0⟩) :
    Calls Try.prog 29 #[.pointer (some ⟨R, 0, none⟩)] w (TokPost R b l c w) := by
  have q0 := fun o => cell_heap (j := 0) (heap_old (p := o) hr) rfl
  have q1 := fun o o2 => cell_heap (j := 1) (heap_old (p := o2) (heap_old (p := o) hr)) rfl
  have q2 := fun o o2 => cell_heap (j := 2) (heap_old (p := o2) (heap_old (p := o) hr)) rfl
  have q3 := fun o o2 o3 => cell_heap (j := 0) (heap_old (p := o3) (heap_old (p := o2) (heap_old (p := o) hr))) rfl
  have HT0 := hide (ts_start w R b l c hr)
  have H0 := hide (fun W => Try.strings_IndexByte ⟨#[123, 125, 59, 91, 93]⟩ b[0].toNat W)
  have HST := hide hst
  clear hst
  have hx1 : ((b[0].toNat : Int) == 32) = false := beq_if (by omega)
  have hx2 : ((b[0].toNat : Int) == 10) = false := beq_if (by omega)
  have hx3 : ((b[0].toNat : Int) == 35) = false := beq_if (by omega)
  have hx4 := beq_it hx
  clear hx
  clear hr
  go_enter Try.func29, Try.ntmps29
  go_wp2_with fail
  refine (H0.out _).mono ?_; rintro e w1 ⟨rfl, hw1⟩
  have HT1 := hide (show TS w R b l c l c 1 { data := #[] } w1 by rw [hw1]; exact HT0.out)
  clear hw1 q0 q1 q2 q3 HT0 H0
  have v0 := cell_heap (j := 0) HT1.out.v rfl
  have t0 := cell_heap (j := 0) HT1.out.t_ rfl
  have t1 := cell_heap (j := 1) HT1.out.t_ rfl
  have t2 := cell_heap (j := 2) HT1.out.t_ rfl
  have t3 := cell_heap (j := 3) HT1.out.t_ rfl
  have z0 := cell_heap (j := 0) HT1.out.z rfl
  have z1 := cell_heap (j := 1) HT1.out.z rfl
  have z2 := cell_heap (j := 2) HT1.out.z rfl
  have z3 := cell_heap (j := 3) HT1.out.z rfl
  have fz0 := frozen_heap (j := 0) HT1.out.z
  have fz1 := frozen_heap (j := 1) HT1.out.z
  have fz2 := frozen_heap (j := 2) HT1.out.z
  have fz3 := frozen_heap (j := 3) HT1.out.z
  have r0 := cell_heap (j := 0) HT1.out.r rfl
  have hpre := Try.strings_HasPrefix b ⟨#[47, 42]⟩ w1
  rw [show Lib.hasPrefix b.data.toList (⟨#[47, 42]⟩ : ByteArray).data.toList = false from hp] at hpre
  have HPRE := hide hpre
  clear hpre
  have hix := Try.strings_IndexAny_laid (b.extract 1 b.size) ⟨#[34, 10]⟩ w1 (by rw [size_T, T_tail, List.length_drop, T_len]; omega) (by decide) (by rw [show (b.extract 1 b.size).data.toList = (T b).drop 1 from T_tail b 1]; exact hasc) (by
    intro j x hj
    have hx5 : x ∈ [(34 : UInt8), 10] := List.mem_of_getElem? hj
    simp at hx5
    rcases hx5 with rfl | rfl <;> decide)
  rw [show Lib.indexAny (b.extract 1 b.size).data.toList (⟨#[34, 10]⟩ : ByteArray).data.toList = Lib.indexAny ((T b).drop 1) [34, 10] by rw [← T_tail]; rfl] at hix
  have hbnd := indexAny_bound [34, 10] ((T b).drop 1)
  rw [List.length_drop, T_len] at hbnd
  clear hasc
  generalize Lib.indexAny ((T b).drop 1) [34, 10] = r at *
  have HIX := hide hix
  clear hix
  obtain ⟨n, rfl⟩ := Int.eq_ofNat_of_zero_le hr0
  have hn : n + 1 < b.size := by have := hbnd hr0; simp at this; omega
  simp only [Int.toNat_natCast] at h10
  have hget : (T b).getD (n + 1) 0 = b[n + 1] := by rw [List.getD_eq_getElem?_getD, T_get b (n + 1) hn]; rfl
  rw [hget] at h10
  have hx6 : ((b[n + 1].toNat : Int) == 10) = true := beq_it (by have := (eq10 _).1 h10; omega)
  clear hbnd hr0 h10 hget
  go_wp2_with fail
  refine HPRE.out.mono ?_; rintro e w2 ⟨rfl, rfl⟩
  go_wp2_with fail
  refine HIX.out.mono ?_; rintro e w3 ⟨rfl, hb3⟩
  have HT2 := hide (HT1.out.took (only_of_below hb3) (heapB hb3 HT1.out.r))
  clear hb3 HT1 HPRE HIX
  clear v0 t0 t1 t2 t3 z0 z1 z2 z3 fz0 fz1 fz2 fz3 r0
  have v0 := cell_heap (j := 0) HT2.out.v rfl
  have t0 := cell_heap (j := 0) HT2.out.t_ rfl
  have t1 := cell_heap (j := 1) HT2.out.t_ rfl
  have t2 := cell_heap (j := 2) HT2.out.t_ rfl
  have t3 := cell_heap (j := 3) HT2.out.t_ rfl
  have z0 := cell_heap (j := 0) HT2.out.z rfl
  have z1 := cell_heap (j := 1) HT2.out.z rfl
  have z2 := cell_heap (j := 2) HT2.out.z rfl
  have z3 := cell_heap (j := 3) HT2.out.z rfl
  have fz0 := frozen_heap (j := 0) HT2.out.z
  have fz1 := frozen_heap (j := 1) HT2.out.z
  have fz2 := frozen_heap (j := 2) HT2.out.z
  have fz3 := frozen_heap (j := 3) HT2.out.z
  have r0 := cell_heap (j := 0) HT2.out.r rfl
  go_wp2_with fail
  refine bodyPost_ret (v := .tuple #[.agg #[.int .u8 1, .string { data := #[] }, .int .i64 l, .int .i64 c], .bool false, .int .i64 71]) (by simp [results, Try.results29, go_sem, z0, z1, z2, z3]) rfl ?_
  refine ⟨(HT2.out.out _ _ _ _).1, .inl ?_⟩
  rw [HST.out]
  exact ⟨rfl, rfl⟩

set_option maxRecDepth 100000 in
set_option maxHeartbeats 1000000 in
theorem token_q3 (R : Nat) (b : ByteArray) (l c : Int) (w : World) (hb0 : 0 < b.size) (hbs : b.size ≤ 65536) (hl : 1 ≤ l) (hl2 : l + b.size ≤ 1000000) (hc : 1 ≤ c) (hc2 : c + b.size ≤ 1000000) (hr : RdR w R b l c)
    (hx : (b[0].toNat : Int) = 34) (hasc : ∀ (j : Nat) (x : UInt8), ((T b).drop 1)[j]? = some x → x.toNat < 128) (hp : Lib.hasPrefix (T b) [47, 42] = false) (hr0 : 0 ≤ Lib.indexAny ((T b).drop 1) [34, 10]) (h10 : ¬ (T b).getD ((Lib.indexAny ((T b).drop 1) [34, 10]).toNat + 1) 0 = 10) (hst : step (T b) = ⟨false, true, 1, ((T b).drop 1).take (Lib.indexAny ((T b).drop 1) [34, 10]).toNat, (Lib.indexAny ((T b).drop 1) [34, 10]).toNat + 2⟩) :
    Calls Try.prog 29 #[.pointer (some ⟨R, 0, none⟩)] w (TokPost R b l c w) := by
  have q0 := fun o => cell_heap (j := 0) (heap_old (p := o) hr) rfl
  have q1 := fun o o2 => cell_heap (j := 1) (heap_old (p := o2) (heap_old (p := o) hr)) rfl
  have q2 := fun o o2 => cell_heap (j := 2) (heap_old (p := o2) (heap_old (p := o) hr)) rfl
  have q3 := fun o o2 o3 => cell_heap (j := 0) (heap_old (p := o3) (heap_old (p := o2) (heap_old (p := o) hr))) rfl
  have HT0 := hide (ts_start w R b l c hr)
  have H0 := hide (fun W => Try.strings_IndexByte ⟨#[123, 125, 59, 91, 93]⟩ b[0].toNat W)
  have HST := hide hst
  clear hst
  have hx1 : ((b[0].toNat : Int) == 32) = false := beq_if (by omega)
  have hx2 : ((b[0].toNat : Int) == 10) = false := beq_if (by omega)
  have hx3 : ((b[0].toNat : Int) == 35) = false := beq_if (by omega)
  have hx4 := beq_it hx
  clear hx
  clear hr
  go_enter Try.func29, Try.ntmps29
  go_wp2_with fail
  refine (H0.out _).mono ?_; rintro e w1 ⟨rfl, hw1⟩
  have HT1 := hide (show TS w R b l c l c 1 { data := #[] } w1 by rw [hw1]; exact HT0.out)
  clear hw1 q0 q1 q2 q3 HT0 H0
  have v0 := cell_heap (j := 0) HT1.out.v rfl
  have t0 := cell_heap (j := 0) HT1.out.t_ rfl
  have t1 := cell_heap (j := 1) HT1.out.t_ rfl
  have t2 := cell_heap (j := 2) HT1.out.t_ rfl
  have t3 := cell_heap (j := 3) HT1.out.t_ rfl
  have z0 := cell_heap (j := 0) HT1.out.z rfl
  have z1 := cell_heap (j := 1) HT1.out.z rfl
  have z2 := cell_heap (j := 2) HT1.out.z rfl
  have z3 := cell_heap (j := 3) HT1.out.z rfl
  have fz0 := frozen_heap (j := 0) HT1.out.z
  have fz1 := frozen_heap (j := 1) HT1.out.z
  have fz2 := frozen_heap (j := 2) HT1.out.z
  have fz3 := frozen_heap (j := 3) HT1.out.z
  have r0 := cell_heap (j := 0) HT1.out.r rfl
  have hpre := Try.strings_HasPrefix b ⟨#[47, 42]⟩ w1
  rw [show Lib.hasPrefix b.data.toList (⟨#[47, 42]⟩ : ByteArray).data.toList = false from hp] at hpre
  have HPRE := hide hpre
  clear hpre
  have hix := Try.strings_IndexAny_laid (b.extract 1 b.size) ⟨#[34, 10]⟩ w1 (by rw [size_T, T_tail, List.length_drop, T_len]; omega) (by decide) (by rw [show (b.extract 1 b.size).data.toList = (T b).drop 1 from T_tail b 1]; exact hasc) (by
    intro j x hj
    have hx5 : x ∈ [(34 : UInt8), 10] := List.mem_of_getElem? hj
    simp at hx5
    rcases hx5 with rfl | rfl <;> decide)
  rw [show Lib.indexAny (b.extract 1 b.size).data.toList (⟨#[34, 10]⟩ : ByteArray).data.toList = Lib.indexAny ((T b).drop 1) [34, 10] by rw [← T_tail]; rfl] at hix
  have hbnd := indexAny_bound [34, 10] ((T b).drop 1)
  rw [List.length_drop, T_len] at hbnd
  clear hasc
  generalize Lib.indexAny ((T b).drop 1) [34, 10] = r at *
  have HIX := hide hix
  clear hix
  obtain ⟨n, rfl⟩ := Int.eq_ofNat_of_zero_le hr0
  have hn : n + 1 < b.size := by have := hbnd hr0; simp at this; omega
  simp only [Int.toNat_natCast] at h10
  have hget : (T b).getD (n + 1) 0 = b[n + 1] := by rw [List.getD_eq_getElem?_getD, T_get b (n + 1) hn]; rfl
  rw [hget] at h10
  have hx6 : ((b[n + 1].toNat : Int) == 10) = false := beq_if (by intro e'; exact h10 ((eq10 _).2 (by omega)))
  have hes : Hid ((b.extract 0 (n + 2)).size = n + 2) := by show _ = _; rw [size_T, T_head, List.length_take, T_len]; omega
  have het : Hid (T ((b.extract 0 (n + 2)).extract 1 (n + 1)) = ((T b).drop 1).take n) := by
    show _ = _
    rw [T_extract, T_head, List.take_take, Nat.min_eq_left (by omega), List.drop_take]
    rfl
  clear hbnd hr0 h10 hget
  go_wp2_with fail
  refine HPRE.out.mono ?_; rintro e w2 ⟨rfl, rfl⟩
  go_wp2_with fail
  refine HIX.out.mono ?_; rintro e w3 ⟨rfl, hb3⟩
  have HT2 := hide (HT1.out.took (only_of_below hb3) (heapB hb3 HT1.out.r))
  clear hb3 HT1 HPRE HIX
  clear v0 t0 t1 t2 t3 z0 z1 z2 z3 fz0 fz1 fz2 fz3 r0
  have v0 := cell_heap (j := 0) HT2.out.v rfl
  have t0 := cell_heap (j := 0) HT2.out.t_ rfl
  have t1 := cell_heap (j := 1) HT2.out.t_ rfl
  have t2 := cell_heap (j := 2) HT2.out.t_ rfl
  have t3 := cell_heap (j := 3) HT2.out.t_ rfl
  have z0 := cell_heap (j := 0) HT2.out.z rfl
  have z1 := cell_heap (j := 1) HT2.out.z rfl
  have z2 := cell_heap (j := 2) HT2.out.z rfl
  have z3 := cell_heap (j := 3) HT2.out.z rfl
  have fz0 := frozen_heap (j := 0) HT2.out.z
  have fz1 := frozen_heap (j := 1) HT2.out.z
  have fz2 := frozen_heap (j := 2) HT2.out.z
  have fz3 := frozen_heap (j := 3) HT2.out.z
  have r0 := cell_heap (j := 0) HT2.out.r rfl
  go_wp2_with fail
  refine (take_int R b _ (n + 2) l c _ (by omega) (by omega) hl (by omega) hc (by omega) HT2.out.r).mono ?_; rintro e w4 ⟨rfl, ho, hr2⟩
  generalize b.extract 0 (n + 2) = bq at *
  have hes1 : n + 1 ≤ bq.size := by have := hes.out; omega
  have HT3 := hide (HT2.out.took ho hr2)
  clear ho hr2 HT2
  clear v0 t0 t1 t2 t3 z0 z1 z2 z3 fz0 fz1 fz2 fz3 r0
  have v0 := cell_heap (j := 0) HT3.out.v rfl
  have t0 := cell_heap (j := 0) HT3.out.t_ rfl
  have t1 := cell_heap (j := 1) HT3.out.t_ rfl
  have t2 := cell_heap (j := 2) HT3.out.t_ rfl
  have t3 := cell_heap (j := 3) HT3.out.t_ rfl
  have z0 := cell_heap (j := 0) HT3.out.z rfl
  have z1 := cell_heap (j := 1) HT3.out.z rfl
  have z2 := cell_heap (j := 2) HT3.out.z rfl
  have z3 := cell_heap (j := 3) HT3.out.z rfl
  have fz0 := frozen_heap (j := 0) HT3.out.z
  have fz1 := frozen_heap (j := 1) HT3.out.z
  have fz2 := frozen_heap (j := 2) HT3.out.z
  have fz3 := frozen_heap (j := 3) HT3.out.z
  have r0 := cell_heap (j := 0) HT3.out.r rfl
  have ft1 := frozen_heap (j := 1) HT3.out.t_
  go_wp2_with fail
  have HT4 := hide (HT3.out.set_t (bq.extract 1 (n + 1)))
  refine bodyPost_ret (v := .tuple #[.agg #[.int .u8 1, .string (bq.extract 1 (n + 1)), .int .i64 l, .int .i64 c], .bool true, .int .i64 0]) (by simp [results, Try.results29, go_sem, z0, z1, z2, z3]) rfl ?_
  refine ⟨(HT4.out.out _ _ _ _).1, .inr ?_⟩
  rw [HST.out]
  exact ⟨rfl, _, _, het.out, T_tail b (n + 2), rfl, (HT4.out.out _ _ _ _).2⟩
end Go.Proofs.Ytihmmmodimionaa.Lx
namespace Go.Proofs.Ytihmmmodimionaa.Lx
open Go.RowKit
theorem indexByte_lt (c : UInt8) : ∀ l : List UInt8, Lib.indexByte l c < l.length := by
  intro l
  induction l with
  | nil => simp [Lib.indexByte]
  | cons x xs ih =>
    unfold Lib.indexByte
    have hge := Lib.indexByte_ge xs c
    simp only [List.length_cons]
    split
    · omega
    · split
      · omega
      · omega
theorem sign_eq (b : ByteArray) (h : 0 < b.size) : Lib.indexByte (⟨#[123, 125, 59, 91, 93]⟩ : ByteArray).data.toList ((b[0].toNat : Int)).toNat.toUInt8 = Lib.indexByte signs b[0] := by
  congr 1
  simp

set_option maxRecDepth 100000 in
set_option maxHeartbeats 1000000 in
theorem token_sign (R : Nat) (b : ByteArray) (l c : Int) (w : World) (hb0 : 0 < b.size) (hbs : b.size ≤ 65536) (hl : 1 ≤ l) (hl2 : l + b.size ≤ 1000000) (hc : 1 ≤ c) (hc2 : c + b.size ≤ 1000000) (hr : RdR w R b l c)
    (hx : ¬ (b[0].toNat : Int) = 32 ∧ ¬ (b[0].toNat : Int) = 10 ∧ ¬ (b[0].toNat : Int) = 35 ∧ ¬ (b[0].toNat : Int) = 34) (hp : Lib.hasPrefix (T b) [47, 42] = false) (hr0 : 0 ≤ Lib.indexByte signs b[0]) (hst : step (T b) = ⟨false, true, 2 + Lib.indexByte signs b[0], (T b).take 1, 1⟩) :
    Calls Try.prog 29 #[.pointer (some ⟨R, 0, none⟩)] w (TokPost R b l c w) := by
  have q0 := fun o => cell_heap (j := 0) (heap_old (p := o) hr) rfl
  have q1 := fun o o2 => cell_heap (j := 1) (heap_old (p := o2) (heap_old (p := o) hr)) rfl
  have q2 := fun o o2 => cell_heap (j := 2) (heap_old (p := o2) (heap_old (p := o) hr)) rfl
  have q3 := fun o o2 o3 => cell_heap (j := 0) (heap_old (p := o3) (heap_old (p := o2) (heap_old (p := o) hr))) rfl
  have HT0 := hide (ts_start w R b l c hr)
  have H0 := hide (fun W => Try.strings_IndexByte ⟨#[123, 125, 59, 91, 93]⟩ b[0].toNat W)
  have HST := hide hst
  clear hst
  obtain ⟨hx1', hx2', hx3', hx4'⟩ := hx
  have hx1 : ((b[0].toNat : Int) == 32) = false := beq_if (by omega)
  have hx2 : ((b[0].toNat : Int) == 10) = false := beq_if (by omega)
  have hx3 : ((b[0].toNat : Int) == 35) = false := beq_if (by omega)
  have hx4 : ((b[0].toNat : Int) == 34) = false := beq_if (by omega)
  have h0r := fun W => Try.strings_IndexByte ⟨#[123, 125, 59, 91, 93]⟩ b[0].toNat W
  simp only [sign_eq b hb0] at h0r
  have hlt5 := indexByte_lt b[0] signs
  have hlt6 : Lib.indexByte signs b[0] < 5 := hlt5
  clear hlt5
  generalize Lib.indexByte signs b[0] = r at *
  have H0R := hide h0r
  clear h0r H0
  clear hr
  go_enter Try.func29, Try.ntmps29
  go_wp2_with fail
  refine (H0R.out _).mono ?_; rintro e w1 ⟨rfl, hw1⟩
  have HT1 := hide (show TS w R b l c l c 1 { data := #[] } w1 by rw [hw1]; exact HT0.out)
  clear hw1 q0 q1 q2 q3 HT0 H0R
  have v0 := cell_heap (j := 0) HT1.out.v rfl
  have t0 := cell_heap (j := 0) HT1.out.t_ rfl
  have t1 := cell_heap (j := 1) HT1.out.t_ rfl
  have t2 := cell_heap (j := 2) HT1.out.t_ rfl
  have t3 := cell_heap (j := 3) HT1.out.t_ rfl
  have z0 := cell_heap (j := 0) HT1.out.z rfl
  have z1 := cell_heap (j := 1) HT1.out.z rfl
  have z2 := cell_heap (j := 2) HT1.out.z rfl
  have z3 := cell_heap (j := 3) HT1.out.z rfl
  have fz0 := frozen_heap (j := 0) HT1.out.z
  have fz1 := frozen_heap (j := 1) HT1.out.z
  have fz2 := frozen_heap (j := 2) HT1.out.z
  have fz3 := frozen_heap (j := 3) HT1.out.z
  have r0 := cell_heap (j := 0) HT1.out.r rfl
  have hpre := Try.strings_HasPrefix b ⟨#[47, 42]⟩ w1
  rw [show Lib.hasPrefix b.data.toList (⟨#[47, 42]⟩ : ByteArray).data.toList = false from hp] at hpre
  have HPRE := hide hpre
  clear hpre
  go_wp2_with fail
  refine HPRE.out.mono ?_; rintro e w2 ⟨rfl, rfl⟩
  go_wp2_with fail
  refine (take_int R b _ 1 l c _ (by omega) (by omega) hl (by omega) hc (by omega) HT1.out.r).mono ?_; rintro e w4 ⟨rfl, ho, hr2⟩
  have HT2 := hide (HT1.out.took ho hr2)
  clear ho hr2 HT1 HPRE
  clear v0 t0 t1 t2 t3 z0 z1 z2 z3 fz0 fz1 fz2 fz3 r0
  have v0 := cell_heap (j := 0) HT2.out.v rfl
  have t0 := cell_heap (j := 0) HT2.out.t_ rfl
  have t1 := cell_heap (j := 1) HT2.out.t_ rfl
  have t2 := cell_heap (j := 2) HT2.out.t_ rfl
  have t3 := cell_heap (j := 3) HT2.out.t_ rfl
  have z0 := cell_heap (j := 0) HT2.out.z rfl
  have z1 := cell_heap (j := 1) HT2.out.z rfl
  have z2 := cell_heap (j := 2) HT2.out.z rfl
  have z3 := cell_heap (j := 3) HT2.out.z rfl
  have fz0 := frozen_heap (j := 0) HT2.out.z
  have fz1 := frozen_heap (j := 1) HT2.out.z
  have fz2 := frozen_heap (j := 2) HT2.out.z
  have fz3 := frozen_heap (j := 3) HT2.out.z
  have r0 := cell_heap (j := 0) HT2.out.r rfl
  have ft0 := frozen_heap (j := 0) HT2.out.t_
  have ft1 := frozen_heap (j := 1) HT2.out.t_
  go_wp2_with fail
  have HT3 := hide ((HT2.out.set_k (2 + r)).set_t (b.extract 0 1))
  refine bodyPost_ret (v := .tuple #[.agg #[.int .u8 (2 + r), .string (b.extract 0 1), .int .i64 l, .int .i64 c], .bool true, .int .i64 0]) (by simp [results, Try.results29, go_sem, z0, z1, z2, z3]) rfl ?_
  refine ⟨(HT3.out.out _ _ _ _).1, .inr ?_⟩
  rw [HST.out]
  exact ⟨rfl, _, _, T_head b 1, T_tail b 1, rfl, (HT3.out.out _ _ _ _).2⟩

set_option maxRecDepth 100000 in
set_option maxHeartbeats 1000000 in
theorem token_word (R : Nat) (b : ByteArray) (l c : Int) (w : World) (hb0 : 0 < b.size) (hbs : b.size ≤ 65536) (hl : 1 ≤ l) (hl2 : l + b.size ≤ 1000000) (hc : 1 ≤ c) (hc2 : c + b.size ≤ 1000000) (hr : RdR w R b l c)
    (hx : ¬ (b[0].toNat : Int) = 32 ∧ ¬ (b[0].toNat : Int) = 10 ∧ ¬ (b[0].toNat : Int) = 35 ∧ ¬ (b[0].toNat : Int) = 34) (hp : Lib.hasPrefix (T b) [47, 42] = false) (hr0 : ¬ 0 ≤ Lib.indexByte signs b[0]) (hst : step (T b) = ⟨false, true, 1, (T b).take (firstN isEnd (T b)), firstN isEnd (T b)⟩) :
    Calls Try.prog 29 #[.pointer (some ⟨R, 0, none⟩)] w (TokPost R b l c w) := by
  have q0 := fun o => cell_heap (j := 0) (heap_old (p := o) hr) rfl
  have q1 := fun o o2 => cell_heap (j := 1) (heap_old (p := o2) (heap_old (p := o) hr)) rfl
  have q2 := fun o o2 => cell_heap (j := 2) (heap_old (p := o2) (heap_old (p := o) hr)) rfl
  have q3 := fun o o2 o3 => cell_heap (j := 0) (heap_old (p := o3) (heap_old (p := o2) (heap_old (p := o) hr))) rfl
  have HT0 := hide (ts_start w R b l c hr)
  have H0 := hide (fun W => Try.strings_IndexByte ⟨#[123, 125, 59, 91, 93]⟩ b[0].toNat W)
  have HST := hide hst
  clear hst
  obtain ⟨hx1', hx2', hx3', hx4'⟩ := hx
  have hx1 : ((b[0].toNat : Int) == 32) = false := beq_if (by omega)
  have hx2 : ((b[0].toNat : Int) == 10) = false := beq_if (by omega)
  have hx3 : ((b[0].toNat : Int) == 35) = false := beq_if (by omega)
  have hx4 : ((b[0].toNat : Int) == 34) = false := beq_if (by omega)
  have h0r := fun W => Try.strings_IndexByte ⟨#[123, 125, 59, 91, 93]⟩ b[0].toNat W
  simp only [sign_eq b hb0] at h0r
  have hlt5 := indexByte_lt b[0] signs
  have hlt6 : Lib.indexByte signs b[0] < 5 := hlt5
  clear hlt5
  generalize Lib.indexByte signs b[0] = r at *
  have H0R := hide h0r
  clear h0r H0
  clear hr
  go_enter Try.func29, Try.ntmps29
  go_wp2_with fail
  refine (H0R.out _).mono ?_; rintro e w1 ⟨rfl, hw1⟩
  have HT1 := hide (show TS w R b l c l c 1 { data := #[] } w1 by rw [hw1]; exact HT0.out)
  clear hw1 q0 q1 q2 q3 HT0 H0R
  have v0 := cell_heap (j := 0) HT1.out.v rfl
  have t0 := cell_heap (j := 0) HT1.out.t_ rfl
  have t1 := cell_heap (j := 1) HT1.out.t_ rfl
  have t2 := cell_heap (j := 2) HT1.out.t_ rfl
  have t3 := cell_heap (j := 3) HT1.out.t_ rfl
  have z0 := cell_heap (j := 0) HT1.out.z rfl
  have z1 := cell_heap (j := 1) HT1.out.z rfl
  have z2 := cell_heap (j := 2) HT1.out.z rfl
  have z3 := cell_heap (j := 3) HT1.out.z rfl
  have fz0 := frozen_heap (j := 0) HT1.out.z
  have fz1 := frozen_heap (j := 1) HT1.out.z
  have fz2 := frozen_heap (j := 2) HT1.out.z
  have fz3 := frozen_heap (j := 3) HT1.out.z
  have r0 := cell_heap (j := 0) HT1.out.r rfl
  have hpre := Try.strings_HasPrefix b ⟨#[47, 42]⟩ w1
  rw [show Lib.hasPrefix b.data.toList (⟨#[47, 42]⟩ : ByteArray).data.toList = false from hp] at hpre
  have HPRE := hide hpre
  clear hpre
  have HN := hide (firstN_le isEnd (T b))
  have HU := hide (until2_any R b w1.drew (by omega) r0)
  generalize hgn : firstN isEnd (T b) = n at *
  have HGN := hide hgn
  clear hgn
  have hn : n ≤ b.size := by have := HN.out; rw [T_len] at this; exact this
  have hr0' : r < 0 := by omega
  have hr0d : decide (0 ≤ r) = false := by simp; omega
  clear hr0 hlt6
  go_wp2_with fail
  refine HPRE.out.mono ?_; rintro e w2 ⟨rfl, rfl⟩
  go_wp2_with fail
  refine wp_region_still_tail 5 (by kernel_rfl) (by kernel_rfl) ?_
  simp only [List.take_succ_cons, List.take_zero, List.drop_succ_cons, List.drop_zero]
  repeat still_step
  still_call (calls_flip HU.out)
  refine wpStill_nil ?_
  go_wp2_with fail
  refine (take_int R b _ n l c _ rfl hn hl (by omega) hc (by omega) HT1.out.drew.r).mono ?_; rintro e w4 ⟨rfl, ho, hr2⟩
  have HT2 := hide (HT1.out.drew.took ho hr2)
  clear ho hr2 HT1 HPRE
  clear v0 t0 t1 t2 t3 z0 z1 z2 z3 fz0 fz1 fz2 fz3 r0
  have v0 := cell_heap (j := 0) HT2.out.v rfl
  have t0 := cell_heap (j := 0) HT2.out.t_ rfl
  have t1 := cell_heap (j := 1) HT2.out.t_ rfl
  have t2 := cell_heap (j := 2) HT2.out.t_ rfl
  have t3 := cell_heap (j := 3) HT2.out.t_ rfl
  have z0 := cell_heap (j := 0) HT2.out.z rfl
  have z1 := cell_heap (j := 1) HT2.out.z rfl
  have z2 := cell_heap (j := 2) HT2.out.z rfl
  have z3 := cell_heap (j := 3) HT2.out.z rfl
  have fz0 := frozen_heap (j := 0) HT2.out.z
  have fz1 := frozen_heap (j := 1) HT2.out.z
  have fz2 := frozen_heap (j := 2) HT2.out.z
  have fz3 := frozen_heap (j := 3) HT2.out.z
  have r0 := cell_heap (j := 0) HT2.out.r rfl
  have ft1 := frozen_heap (j := 1) HT2.out.t_
  go_wp2_with fail
  have HT3 := hide (HT2.out.set_t (b.extract 0 n))
  refine bodyPost_ret (v := .tuple #[.agg #[.int .u8 1, .string (b.extract 0 n), .int .i64 l, .int .i64 c], .bool true, .int .i64 0]) (by simp [results, Try.results29, go_sem, z0, z1, z2, z3]) rfl ?_
  refine ⟨(HT3.out.out _ _ _ _).1, .inr ?_⟩
  rw [HST.out]
  exact ⟨rfl, _, _, T_head b n, T_tail b n, rfl, (HT3.out.out _ _ _ _).2⟩
end Go.Proofs.Ytihmmmodimionaa.Lx
namespace Go.Proofs.Ytihmmmodimionaa.Lx
open Go.RowKit

theorem T_cons (b : ByteArray) (h : 0 < b.size) : T b = b[0] :: (T b).drop 1 := by
  have := T_drop b 0 h
  rwa [List.drop_zero] at this
theorem head_T (b : ByteArray) (h : 0 < b.size) : (T b).headD 0 = b[0] := by rw [T_cons b h]; rfl
theorem u8_int (x : UInt8) (n : Nat) (h : n < 256) : x = UInt8.ofNat n ↔ (x.toNat : Int) = n := by rw [u8_eq x n h]; omega

theorem token_any (R : Nat) (b : ByteArray) (l c : Int) (w : World) (hb0 : 0 < b.size) (hbs : b.size ≤ 65536) (hl : 1 ≤ l) (hl2 : l + b.size ≤ 1000000) (hc : 1 ≤ c) (hc2 : c + b.size ≤ 1000000) (hr : RdR w R b l c)
    (hR : R ≠ 0) (m : Int) (hm : w.cell? ⟨0, 0, none⟩ = some (.int .i64 m)) (hok : ∀ x ∈ T b, x = 10 ∨ (32 ≤ x.toNat ∧ x.toNat ≤ 126)) :
    Calls Try.prog 29 #[.pointer (some ⟨R, 0, none⟩)] w (TokPost R b l c w) := by
  have hh := head_T b hb0
  have e32 : b[0] = 32 ↔ (b[0].toNat : Int) = 32 := u8_int b[0] 32 (by omega)
  have e10 : b[0] = 10 ↔ (b[0].toNat : Int) = 10 := u8_int b[0] 10 (by omega)
  have e35 : b[0] = 35 ↔ (b[0].toNat : Int) = 35 := u8_int b[0] 35 (by omega)
  have e34 : b[0] = 34 ↔ (b[0].toNat : Int) = 34 := u8_int b[0] 34 (by omega)
  have hs : step (T b) = step (T b) := rfl
  conv at hs => rhs; unfold step; rw [hh]
  by_cases h1 : b[0] = 32 ∨ b[0] = 10
  · rw [if_pos h1] at hs
    exact token_blank R b l c w hb0 hbs hl hl2 hc hc2 hr (by rcases h1 with h | h; exact .inl (e32.1 h); exact .inr (e10.1 h)) hs
  rw [if_neg h1] at hs
  have n32 : ¬ (b[0].toNat : Int) = 32 := fun h => h1 (.inl (e32.2 h))
  have n10 : ¬ (b[0].toNat : Int) = 10 := fun h => h1 (.inr (e10.2 h))
  by_cases h2 : b[0] = 35
  · rw [if_pos h2] at hs
    exact token_hash R b l c w hb0 hbs hl hl2 hc hc2 hr (e35.1 h2) hs
  rw [if_neg h2] at hs
  have n35 : ¬ (b[0].toNat : Int) = 35 := fun h => h2 (e35.2 h)
  cases hp : Lib.hasPrefix (T b) [47, 42]
  · rw [if_neg (by rw [hp]; decide)] at hs
    by_cases h3 : b[0] = 34
    · rw [if_pos h3] at hs
      have hasc : ∀ (j : Nat) (x : UInt8), ((T b).drop 1)[j]? = some x → x.toNat < 128 := fun j x hx => by
        have hmem : x ∈ T b := List.mem_of_mem_drop (List.mem_of_getElem? hx)
        rcases hok x hmem with h | h
        · rw [h]; decide
        · omega
      by_cases h4 : Lib.indexAny ((T b).drop 1) [34, 10] < 0
      · rw [if_pos (.inl h4)] at hs
        exact token_q1 R b l c w hb0 hbs hl hl2 hc hc2 hr (e34.1 h3) hasc hp h4 hs
      · by_cases h5 : (T b).getD ((Lib.indexAny ((T b).drop 1) [34, 10]).toNat + 1) 0 = 10
        · rw [if_pos (.inr h5)] at hs
          exact token_q2 R b l c w hb0 hbs hl hl2 hc hc2 hr (e34.1 h3) hasc hp (by omega) h5 hs
        · rw [if_neg (fun h => h.elim h4 h5)] at hs
          exact token_q3 R b l c w hb0 hbs hl hl2 hc hc2 hr (e34.1 h3) hasc hp (by omega) h5 hs
    · rw [if_neg h3] at hs
      have n34 : ¬ (b[0].toNat : Int) = 34 := fun h => h3 (e34.2 h)
      by_cases h6 : (0 : Int) ≤ Lib.indexByte signs b[0]
      · rw [if_pos h6] at hs
        exact token_sign R b l c w hb0 hbs hl hl2 hc hc2 hr ⟨n32, n10, n35, n34⟩ hp h6 hs
      · rw [if_neg h6] at hs
        exact token_word R b l c w hb0 hbs hl hl2 hc hc2 hr ⟨n32, n10, n35, n34⟩ hp h6 hs
  · rw [if_pos hp] at hs
    by_cases h4 : Lib.index ((T b).drop 2) [42, 47] < 0
    · rw [if_pos h4] at hs
      exact token_open R b l c w hb0 hbs hl hl2 hc hc2 hr ⟨n32, n10, n35⟩ hR m hm hp h4 hs
    · rw [if_neg h4] at hs
      exact token_comment R b l c w hb0 hbs hl hl2 hc hc2 hr ⟨n32, n10, n35⟩ hR m hm hp (by omega) hs

/-- what a step takes: at least one byte, and no more than there are -/
theorem step_n (s : List UInt8) (h : s ≠ []) (he : (step s).err = false) : 1 ≤ (step s).n ∧ (step s).n ≤ s.length := by
  obtain ⟨x, xs, rfl⟩ := List.exists_cons_of_ne_nil h
  have hs : step (x :: xs) = step (x :: xs) := rfl
  conv at hs => rhs; unfold step; rw [show (x :: xs).headD 0 = x from rfl]
  by_cases h1 : x = 32 ∨ x = 10
  · rw [if_pos h1] at hs
    rw [hs]; simp
  rw [if_neg h1] at hs
  by_cases h2 : x = 35
  · rw [if_pos h2] at hs
    rw [hs]
    have := firstN_le is10 (x :: xs)
    refine ⟨?_, this⟩
    show 1 ≤ firstN is10 (x :: xs)
    rw [firstN, if_neg (by simp [is10, h2])]; omega
  rw [if_neg h2] at hs
  by_cases h3 : Lib.hasPrefix (x :: xs) [47, 42] = true
  · rw [if_pos h3] at hs
    by_cases h4 : Lib.index ((x :: xs).drop 2) [42, 47] < 0
    · rw [if_pos h4] at hs
      rw [hs] at he; cases he
    · rw [if_neg h4] at hs
      rw [hs]
      have := index_bound [42, 47] ((x :: xs).drop 2) (by omega)
      have hl := (List.isPrefixOf_iff_prefix.1 h3).length_le
      simp only [List.length_drop, List.length_cons, List.length_nil] at this hl ⊢
      omega
  rw [if_neg h3] at hs
  by_cases h4 : x = 34
  · rw [if_pos h4] at hs
    by_cases h5 : Lib.indexAny ((x :: xs).drop 1) [34, 10] < 0 ∨ (x :: xs).getD ((Lib.indexAny ((x :: xs).drop 1) [34, 10]).toNat + 1) 0 = 10
    · rw [if_pos h5] at hs
      rw [hs] at he; cases he
    · rw [if_neg h5] at hs
      rw [hs]
      have h6 : ¬ Lib.indexAny ((x :: xs).drop 1) [34, 10] < 0 := fun h => h5 (.inl h)
      have := indexAny_bound [34, 10] ((x :: xs).drop 1) (by omega)
      simp only [List.length_drop, List.length_cons] at this ⊢
      omega
  rw [if_neg h4] at hs
  by_cases h5 : (0 : Int) ≤ Lib.indexByte signs x
  · rw [if_pos h5] at hs
    rw [hs]; simp
  · rw [if_neg h5] at hs
    rw [hs]
    have := firstN_le isEnd (x :: xs)
    refine ⟨?_, this⟩
    show 1 ≤ firstN isEnd (x :: xs)
    rw [firstN, if_neg]
    · omega
    · intro hend
      rw [isEnd] at hend
      have hq : Lib.hasPrefix (x :: xs) [47, 42] = false := by simpa using h3
      rw [hq, Bool.or_false, decide_eq_true_eq] at hend
      have n32 : (32 == x) = false := beq_eq_false_iff_ne.2 (fun h => h1 (.inl h.symm))
      have n10 : (10 == x) = false := beq_eq_false_iff_ne.2 (fun h => h1 (.inr h.symm))
      have n35 : (35 == x) = false := beq_eq_false_iff_ne.2 (fun h => h2 h.symm)
      have n34 : (34 == x) = false := beq_eq_false_iff_ne.2 (fun h => h4 h.symm)
      simp only [Lib.indexByte, signs] at h5
      simp only [Lib.indexByte, endB, n32, n10, n34, n35] at hend
      cases c1 : ((123 : UInt8) == x) <;> cases c2 : ((125 : UInt8) == x) <;> cases c3 : ((59 : UInt8) == x) <;> cases c4 : ((91 : UInt8) == x) <;> cases c5 : ((93 : UInt8) == x) <;> simp [c1, c2, c3, c4, c5] at h5 hend
end Go.Proofs.Ytihmmmodimionaa.Lx
namespace Go.Proofs.Ytihmmmodimionaa.Lx
open Go.RowKit

theorem nonempty_B {b : ByteArray} (h : 0 < b.size) : (!b.toList.isEmpty) = true := by
  rw [ByteArray.toList_eq, show b.data.toList = T b from rfl, T_cons b h]; rfl
theorem empty_B {b : ByteArray} (h : ¬ 0 < b.size) : T b = [] := List.eq_nil_of_length_eq_zero (by rw [T_len]; omega)
theorem adv_sum {b b' : ByteArray} {n : Nat} {l c : Int} (hb : T b' = (T b).drop n) (hn : n ≤ (T b).length) (hl : 1 ≤ l) (hc : 1 ≤ c) (h1 : l + b.size ≤ 70000) (h2 : c + b.size ≤ 70000) :
    b'.size = b.size - n ∧ n ≤ b.size ∧ 1 ≤ (adv ((T b).take n) l c).1 ∧ (adv ((T b).take n) l c).1 + b'.size ≤ 70000 ∧ 1 ≤ (adv ((T b).take n) l c).2 ∧ (adv ((T b).take n) l c).2 + b'.size ≤ 70000 := by
  have hs : b'.size = b.size - n := by rw [size_T b', hb, List.length_drop, T_len]
  rw [T_len] at hn
  have := adv_bd ((T b).take n) l c hl hc
  rw [List.length_take, T_len, Nat.min_eq_left hn] at this
  refine ⟨hs, hn, ?_⟩
  omega
/-- what stands at the head of each round of lex.Tokens: N: the heap when the call began; R: the reader -/
structure TL (s : ByteArray) (w : World) (R : Nat) (g : Nat) (v : Value) (wr : World) (b : ByteArray) (l c : Int) (bs : List BTok) : Prop where
  size : b.size ≤ g
  le : b.size ≤ 65536
  l1 : 1 ≤ l
  l2 : l + b.size ≤ 70000
  c1 : 1 ≤ c
  c2 : c + b.size ≤ 70000
  len : bs.length + b.size ≤ 65536
  ok : ∀ x ∈ T b, x = 10 ∨ (32 ≤ x.toNat ∧ x.toNat ≤ 126)
  own : wr.ownsRow w.heap.size 34 4 v bs.length (bs.flatMap BTok.cells)
  r : RdR wr R b l c
  p : PosR wr w.heap.size 0 0
  bel : Below w.heap.size w wr
  hR : w.heap.size < R
  eq : ∃ f, (T b).length ≤ f ∧ toks (T s).length (T s) 1 1 = appT (bs.map BTok.tok) (toks f (T b) l c)

set_option maxRecDepth 100000 in
set_option maxHeartbeats 1000000 in
theorem tokens_ok (s : ByteArray) (w : World) (hs : (chk (T s)).2.2 = 0) (m : Int) (hm : w.cell? ⟨0, 0, none⟩ = some (.int .i64 m)) :
    Calls Try.prog 8 #[.string s] w (TokOut (tokRes (T s)).1 (tokRes (T s)).2 w) := by
  have hlen := chk_len hs
  rw [T_len] at hlen
  have hok := hide (chk_ok hs)
  have hc := fun o => check_any s (w.alloc o) (by unfold maxLen; omega)
  simp only [hs] at hc
  have HC := hide hc
  have h0 := lt_of_cell hm
  simp only at h0
  have HM := hide hm
  have HS := hide hs
  clear hc hs hm
  go_enter Try.func8, Try.ntmps8
  go_wp2_with fail
  refine (HC.out _).mono ?_; rintro e w1 ⟨rfl, hb1⟩
  have hp1 : PosR w1 w.heap.size 0 0 := heapB hb1 (heap_new w _)
  have hbw : Below w.heap.size w w1 := below_wide (bel_one _ _) hb1
  go_wp2_with fail
  have HTL : Hid (TL s w (w1.heap.size + 1) s.size (.slice none 0 0) ((w1.alloc (Obj.cells #[.int .i64 (chk (T s)).1, .int .i64 (chk (T s)).2.1] 24)).alloc (Obj.cells #[.string s, .int .i64 1, .int .i64 1] 69)) s 1 1 []) := by
    have hsz := hb1.size
    simp only [World.size_alloc] at hsz
    exact ⟨Nat.le_refl _, hlen, by omega, by omega, by omega, by omega, by simpa using hlen, hok.out, World.ownsRow_nil _ _ _ _, heap_new2 _ _ _, heap_old (heap_old hp1), below_wide hbw (bel_two w1 _ _), by omega, _, Nat.le_refl _, (appT_nil _).symm⟩
  clear hp1 hbw hb1 hok HC
  generalize w1.heap.size + 1 = R at *
  generalize ((w1.alloc (Obj.cells #[.int .i64 (chk (T s)).1, .int .i64 (chk (T s)).2.1] 24)).alloc (Obj.cells #[.string s, .int .i64 1, .int .i64 1] 69)) = w2 at *
  go_loopg [7] s.size (fun g v wr => ∃ b l c bs, TL s w R g v wr b l c bs)
  case atStart => exact ⟨_, _, _, _, HTL.out⟩
  case round =>
    clear HTL
    obtain ⟨b, l, c, bs, htl⟩ := hrel
    have r0 := cell_heap (j := 0) htl.r rfl
    have p0 := cell_heap (j := 0) htl.p rfl
    have p1 := cell_heap (j := 1) htl.p rfl
    have fp0 := frozen_heap (j := 0) htl.p
    have fp1 := frozen_heap (j := 1) htl.p
    have HT := hide htl
    clear htl
    by_cases hz : 0 < b.size
    · have hne := nonempty_B hz
      have htne : T b ≠ [] := by rw [T_cons b hz]; simp
      have HTN := hide htne
      have hm1 : wr.cell? ⟨0, 0, none⟩ = some (.int .i64 m) := by rw [HT.out.bel.cell (p := ⟨0, 0, none⟩) h0]; exact HM.out
      have HTK := hide (token_any R b l c wr hz HT.out.le HT.out.l1 (by have := HT.out.l2; omega) HT.out.c1 (by have := HT.out.c2; omega) HT.out.r (by have := HT.out.hR; omega) m hm1 HT.out.ok)
      clear hm1 htne
      have HNE := hide hne
      go_wp2_with fail
      refine HTK.out.mono ?_; rintro e w3 ⟨ho, hpost⟩
      have hp3 := only_heap ho HT.out.p (by have := HT.out.hR; omega)
      have HP3 := hide hp3
      have p0' := fun o => cell_heap (j := 0) (heap_old (p := o) hp3) rfl
      have p1' := fun o => cell_heap (j := 1) (heap_old (p := o) hp3) rfl
      have fp0' := fun o => frozen_heap (j := 0) (heap_old (p := o) hp3)
      have fp1' := fun o => frozen_heap (j := 1) (heap_old (p := o) hp3)
      have HB3 := hide (HT.out.bel.trans (only_below ho (Nat.le_of_lt HT.out.hR) HT.out.bel.size))
      have HO := hide ho
      clear ho hp3 p0 p1 fp0 fp1 hne HTK
      rcases hpost with ⟨herr, rfl⟩ | ⟨herr, tb, b', htb, hb', rfl, hr2⟩
      · have HERR := hide herr
        clear herr
        go_wp2_with fail
        go_region
        go_wp2_with fail
        obtain ⟨f, hf1, hf2⟩ := HT.out.eq
        have hres := tokRes_err HS.out (toks_err hf1 HTN.out hf2 HERR.out)
        refine bodyPost_ret (v := .tuple #[.slice none 0 0, .agg #[.int .i64 l, .int .i64 c], .int .i64 71]) (by simp [results, Try.results8, go_sem, p0', p1']) rfl ?_
        rw [hres]
        exact ⟨_, [], rfl, rfl, World.ownsRow_nil _ _ _ _, (((HB3.out.alloc HB3.out.size _).setCell (p := ⟨w.heap.size, 0, none⟩) (Nat.le_refl _) _).setCell (p := ⟨w.heap.size, 1, none⟩) (Nat.le_refl _) _).drew, by simp⟩
      · have hsn := step_n (T b) HTN.out herr
        obtain ⟨f, hf1, hf2⟩ := HT.out.eq
        have hmore := toks_more hf1 HTN.out hf2 herr hsn.1
        obtain ⟨hs1, hs2, hs3, hs4, hs5, hs6⟩ := adv_sum hb' hsn.2 HT.out.l1 HT.out.c1 HT.out.l2 HT.out.c2
        rw [← hb'] at hmore
        have hown3 := HT.out.own.kept HO.out (.inr (own_ne_row HT.out.own HT.out.r (by decide)))
        have hok' : ∀ x ∈ T b', x = 10 ∨ (32 ≤ x.toNat ∧ x.toNat ≤ 126) := fun x hx => HT.out.ok x (by rw [hb'] at hx; exact List.mem_of_mem_drop hx)
        have hn1 := hsn.1
        have hle1 := HT.out.len
        have hle2 := HT.out.le
        have hgk := HT.out.size
        generalize (adv ((T b).take (step (T b)).n) l c).1 = l' at *
        generalize (adv ((T b).take (step (T b)).n) l c).2 = c' at *
        generalize (step (T b)).n = n at *
        have HMORE := hide hmore
        have HOWN := hide hown3
        have HR2 := hide hr2
        have HOK := hide hok'
        have HTB := hide htb
        clear herr hsn hf1 hf2 f hmore hown3 hr2 hok' htb hb'
        cases his : (step (T b)).is
        · have HIS := hide his
          clear his
          go_wp2_with fail
          go_roundg b'.size
          case measure => omega
          case rel =>
            refine ⟨b', l', c', bs, ⟨Nat.le_refl _, by omega, hs3, hs4, hs5, hs6, by omega, HOK.out, HOWN.out.alloc _, heap_old HR2.out, heap_old HP3.out, HB3.out.alloc HB3.out.size _, HT.out.hR, ?_⟩⟩
            obtain ⟨f', h1, h2⟩ := HMORE.out
            rw [HIS.out] at h2
            exact ⟨f', h1, by rw [h2]; simp⟩
        · have HIS := hide his
          clear his
          obtain ⟨i1, hi1, iz1, is1, ib1⟩ := info_parts infoTok
          generalize hk : (step (T b)).k = k at *
          have HK := hide hk
          clear hk
          have HOWN2 := hide ((HOWN.out.alloc (Obj.cells #[.int .u8 k, .string tb, .int .i64 l, .int .i64 c] 34)).alloc (Obj.cells #[.int .u8 k, .string tb, .int .i64 l, .int .i64 c] 34))
          go_wp2_with (at_builtin; (refine wpList_append_own _ rfl (.tmp 42) (.tmp 44) 22 rfl w.heap.size 34 i1 _ 4 40 Try.underlying22 hi1 iz1 is1 ib1 rfl (by decide) _ bs.length (bs.flatMap BTok.cells) rfl HOWN2.out ⟨w3.heap.size + 1, 0, none⟩ 1 1 [.int .u8 k, .string tb, .int .i64 l, .int .i64 c] rfl rfl ?cells ?ones ?c63 ?cby ?cbase ?_))
          case cells =>
            intro j u hj
            match j, hj with
            | 0, hj => simp at hj; subst hj; simp [Addr.add, go_sem]
            | 1, hj => simp at hj; subst hj; simp [Addr.add, go_sem]
            | 2, hj => simp at hj; subst hj; simp [Addr.add, go_sem]
            | 3, hj => simp at hj; subst hj; simp [Addr.add, go_sem]
            | j + 4, hj => simp at hj
          case ones => simp [Value.oneCell']
          case c63 => unfold maxLen; omega
          case cby => omega
          case cbase => have := HB3.out.size; simp; omega
          intro v' w4 hown' hgrow _
          have HGR := hide hgrow
          have HOW := hide hown'
          clear hgrow hown'
          go_wp2_with fail
          go_roundg b'.size
          case measure => omega
          case rel =>
            have hr1 : RdR ((w3.alloc (Obj.cells #[.int .u8 k, .string tb, .int .i64 l, .int .i64 c] 34)).alloc (Obj.cells #[.int .u8 k, .string tb, .int .i64 l, .int .i64 c] 34)) R b' l' c' := heap_old (heap_old HR2.out)
            have hp1 : PosR ((w3.alloc (Obj.cells #[.int .u8 k, .string tb, .int .i64 l, .int .i64 c] 34)).alloc (Obj.cells #[.int .u8 k, .string tb, .int .i64 l, .int .i64 c] 34)) w.heap.size 0 0 := heap_old (heap_old HP3.out)
            have hsz3 := HB3.out.size
            refine ⟨b', l', c', bs ++ [⟨k, tb, l, c⟩], ⟨Nat.le_refl _, by omega, hs3, hs4, hs5, hs6, by simp; omega, HOK.out, ?_, heap_grown hr1 HGR.out (own_ne_row HOWN2.out hr1 (by decide)), heap_grown hp1 HGR.out (own_ne_row HOWN2.out hp1 (by decide)), ((HB3.out.alloc hsz3 _).alloc (by simp; omega) _).grown HGR.out (by simp; omega) (fun k' hk' => (HOWN2.out.lt k' hk').1), HT.out.hR, ?_⟩⟩
            · have := HOW.out
              simpa [BTok.cells] using this
            · obtain ⟨f', h1, h2⟩ := HMORE.out
              rw [HIS.out] at h2
              exact ⟨f', h1, by rw [h2]; simp [BTok.tok, ← HTB.out]⟩
    · have hbe := empty_B hz
      have hem : (!b.toList.isEmpty) = false := by rw [ByteArray.toList_eq, show b.data.toList = T b from rfl, hbe]; rfl
      obtain ⟨f, hf1, hf2⟩ := HT.out.eq
      rw [hbe, toks_nil] at hf2
      have HR := hide (tokRes_ok HS.out hf2)
      have HEM := hide hem
      clear hem hbe hf1 hf2 f hz
      have hem := HEM.out
      go_wp2_with fail
      refine bodyPost_ret (v := .tuple #[u7, .agg #[.int .i64 0, .int .i64 0], .int .i64 0]) (by simp [results, Try.results8, go_sem, p0, p1]) rfl ?_
      rw [HR.out]
      have hpos := own_ne_row HT.out.own HT.out.p (by decide)
      exact ⟨_, bs, by simp, rfl, ownsRow_setCell_other (ownsRow_setCell_other HT.out.own hpos _) hpos _, ((HT.out.bel.setCell (p := ⟨w.heap.size, 0, none⟩) (Nat.le_refl _) _).setCell (p := ⟨w.heap.size, 1, none⟩) (Nat.le_refl _) _), by have := HT.out.len; omega⟩

set_option maxHeartbeats 1000000 in
theorem tokens_no (s : ByteArray) (w : World) (hs : ¬ (chk (T s)).2.2 = 0) (hlen : s.size ≤ maxLen) :
    Calls Try.prog 8 #[.string s] w (TokOut (tokRes (T s)).1 (tokRes (T s)).2 w) := by
  have HC := hide (fun o => check_any s (w.alloc o) hlen)
  have hne := beq_if hs
  have HS := hide hs
  rw [tokRes_no hs]
  clear hs
  generalize hp : (chk (T s)).1 = p at *
  generalize hq : (chk (T s)).2.1 = q at *
  generalize hr : (chk (T s)).2.2 = r at *
  have HP := hide (show chk (T s) = (p, q, r) by rw [← hp, ← hq, ← hr])
  clear hp hq hr
  go_enter Try.func8, Try.ntmps8
  go_wp2_with fail
  refine (HC.out _).mono ?_; rintro e w1 ⟨rfl, hb1⟩
  have hp1 : PosR w1 w.heap.size 0 0 := heapB hb1 (heap_new w _)
  have hbw : Below w.heap.size w w1 := below_wide (bel_one _ _) hb1
  have q0 := fun o => cell_heap (j := 0) (heap_old (p := o) hp1) rfl
  have q1 := fun o => cell_heap (j := 1) (heap_old (p := o) hp1) rfl
  have f0 := fun o => frozen_heap (j := 0) (heap_old (p := o) hp1)
  have f1 := fun o => frozen_heap (j := 1) (heap_old (p := o) hp1)
  have HB := hide hbw
  clear hp1 hbw hb1
  go_wp2_with fail
  go_region
  go_wp2_with fail
  refine bodyPost_ret (v := .tuple #[.slice none 0 0, .agg #[.int .i64 p, .int .i64 q], .int .i64 r]) (by simp [results, Try.results8, go_sem, q0, q1]) rfl ?_
  rw [HP.out]
  exact ⟨_, [], rfl, rfl, World.ownsRow_nil _ _ _ _, (((HB.out.alloc HB.out.size _).setCell (p := ⟨w.heap.size, 0, none⟩) (Nat.le_refl _) _).setCell (p := ⟨w.heap.size, 1, none⟩) (Nat.le_refl _) _).drew, by simp⟩

theorem tokens_any (s : ByteArray) (w : World) (hlen : s.size ≤ maxLen) (m : Int) (hm : w.cell? ⟨0, 0, none⟩ = some (.int .i64 m)) :
    Calls Try.prog 8 #[.string s] w (TokOut (tokRes (T s)).1 (tokRes (T s)).2 w) := by
  by_cases hs : (chk (T s)).2.2 = 0
  · exact tokens_ok s w hs m hm
  · exact tokens_no s w hs hlen
end Go.Proofs.Ytihmmmodimionaa.Lx
/- The reader of statements: next, off, fail. -/
namespace Go.Proofs.Ytihmmmodimionaa.Tr
open Go.RowKit Go.Proofs.Ytihmmmodimionaa Go.Proofs.Ytihmmmodimionaa.Lx

def kindT : List BTok → Int
  | [] => 0
  | t :: _ => t.k
theorem TokS.head {w : World} {A : Option Addr} {c : Nat} {t : BTok} {ts : List BTok} (h : TokS w A c (t :: ts)) : ∃ ad, A = some ad ∧ w.cell? ad = some (.int .u8 t.k) ∧ w.cell? ⟨ad.block, ad.off + 1, none⟩ = some (.string t.b) ∧ w.cell? ⟨ad.block, ad.off + 2, none⟩ = some (.int .i64 t.l) ∧ w.cell? ⟨ad.block, ad.off + 3, none⟩ = some (.int .i64 t.c) := by
  obtain ⟨h1, ⟨_, h2, _⟩ | ⟨ad, h2, h3⟩⟩ := h
  · simp at h2
  · exact ⟨ad, h2, h3 0 _ rfl, h3 1 _ rfl, h3 2 _ rfl, h3 3 _ rfl⟩
theorem RdX.below {w w' : World} {p : Nat} {A : Option Addr} {cap : Nat} {ts : List BTok} {e l c : Int} (h : RdX w p A cap ts e l c) (hb : Below w.heap.size w w') : RdX w' p A cap ts e l c := ⟨heapB hb h.h, h.t.below hb, h.lt, h.cp, h.cm, h.kz⟩
set_option maxRecDepth 100000 in
theorem next_any (p : Nat) (A : Option Addr) (cap : Nat) (ts : List BTok) (e l c : Int) (w : World) (h : RdX w p A cap ts e l c) (hl : ts.length ≤ 100000) :
    Calls Try.prog 60 #[.pointer (some ⟨p, 0, none⟩)] w fun e' w' => e' = .returned (.int .u8 (kindT ts)) ∧ w = w' := by
  have p0 := cell_heap (j := 0) h.h rfl
  have ht := h.t
  clear h
  cases ts with
  | nil =>
    clear ht
    go_enter Try.func60, Try.ntmps60
    go_wp2_with fail
    go_ret
    exact ⟨rfl, rfl⟩
  | cons t ts =>
    obtain ⟨ad, rfl, q0, q1, q2, q3⟩ := ht.head
    have d0 : ((0 : Int) < ((ts.length + 1 : Nat) : Int)) := by omega
    have d1 : (((ts.length + 1 : Nat) : Int) == 0) = false := by simp; omega
    have d2 : ((0 : Int) < (ts.length : Int) + 1) := by omega
    have d3 : ((ts.length : Int) + 1 == 0) = false := by simp; omega
    clear ht
    rw [List.length_cons] at p0
    go_enter Try.func60, Try.ntmps60
    go_wp2_with fail
    go_ret
    exact ⟨rfl, rfl⟩
abbrev BTok.val (t : BTok) : Value := .agg #[.int .u8 t.k, .string t.b, .int .i64 t.l, .int .i64 t.c]
def OffOut (p cap : Nat) (t : BTok) (ts : List BTok) (e l c : Int) (w : World) (e' : Ending) (w' : World) : Prop :=
  e' = .returned (BTok.val t) ∧ Only p w w' ∧ ∃ A', RdX w' p A' (cap - 1) ts e l c
set_option maxRecDepth 100000 in
theorem off_any (p : Nat) (A : Option Addr) (cap : Nat) (t : BTok) (ts : List BTok) (e l c : Int) (w : World) (h : RdX w p A cap (t :: ts) e l c) (hl : ts.length ≤ 100000) (hcm : cap ≤ maxLen) :
    Calls Try.prog 62 #[.pointer (some ⟨p, 0, none⟩)] w (OffOut p cap t ts e l c w) := by
  have hp := lt_heap h.h
  obtain ⟨ad, rfl, q0, q1, q2, q3⟩ := h.t.head
  have hadp := h.lt ad rfl
  have p0 := cell_heap (j := 0) h.h rfl
  rw [List.length_cons] at p0
  have HH := hide h
  clear h
  have d0 : ((0 : Int) < ((ts.length + 1 : Nat) : Int)) := by omega
  have d2 : ((0 : Int) < (ts.length : Int) + 1) := by omega
  have hcp : ts.length + 1 ≤ cap := HH.out.cp
  have b0 := fun (o : Obj) => cellB (bel_one w o) q0
  have b1 := fun (o : Obj) => cellB (bel_one w o) q1
  have b2 := fun (o : Obj) => cellB (bel_one w o) q2
  have b3 := fun (o : Obj) => cellB (bel_one w o) q3
  have hsp : ad.spot = none := World.cell?_spot q0
  obtain ⟨bk, of, sp⟩ := ad
  cases hsp
  have f0 := frozen_heap (j := 0) HH.out.h
  have hbp : bk ≠ p := by have : bk < p := hadp; omega
  have fin : ∀ (A' : Option Addr), TokS w A' (cap - 1) ts → (∀ a, A' = some a → a.block = bk) →
      OffOut p cap t ts e l c w (.returned (BTok.val t)) (((w.setCell ⟨p, 0, none⟩ (.slice A' ts.length (cap - 1))).alloc (Obj.cells #[.int .u8 t.k, .string t.b, .int .i64 t.l, .int .i64 t.c] 34)).alloc (Obj.cells #[.int .u8 t.k, .string t.b, .int .i64 t.l, .int .i64 t.c] 34)) := by
    intro A' hA' hb'
    have ho : Only p w (((w.setCell ⟨p, 0, none⟩ (.slice A' ts.length (cap - 1))).alloc (Obj.cells #[.int .u8 t.k, .string t.b, .int .i64 t.l, .int .i64 t.c] 34)).alloc (Obj.cells #[.int .u8 t.k, .string t.b, .int .i64 t.l, .int .i64 t.c] 34)) := only_alloc (only_alloc (only_set (only_refl p w) 0 _) _) _
    refine ⟨rfl, ho, A', ⟨?_, ?_, fun a ha => by rw [hb' a ha]; exact hadp, by omega, by omega, fun x hx => HH.out.kz x (List.mem_cons_of_mem _ hx)⟩⟩
    · have := heap_set (j := 0) (u := .slice A' ts.length (cap - 1)) HH.out.h
      exact heap_old (heap_old this)
    · refine src_keep hA' (fun a ha => ?_)
      have h1 : a.block < w.heap.size := by rw [hb' a ha]; exact Nat.lt_trans hadp hp
      exact ho.block a.block h1 (fun e => by
        injection e with e
        exact hbp (by rw [← hb' a ha, e]))
  have ht4 : TokS w (some ⟨bk, of + 4, none⟩) (cap - 1) ts := by
    obtain ⟨h1, ⟨_, h2, _⟩ | ⟨ad', h2, h3⟩⟩ := HH.out.t
    · simp at h2
    · cases h2
      refine ⟨by rw [flat_len], .inr ⟨_, rfl, fun j u hj => ?_⟩⟩
      have := h3 (j + 4) u (by rw [List.flatMap_cons, List.getElem?_append_right (by simp [BTok.cells])]; simpa [BTok.cells] using hj)
      have e1 : (⟨bk, of, none⟩ : Addr).add (j + 4) = (⟨bk, of + 4, none⟩ : Addr).add j := by
        cases j with
        | zero => rfl
        | succ j => simp [Addr.add]; omega
      rw [← e1]
      exact this
  have FIN := hide fin
  have HT4 := hide ht4
  clear fin ht4
  by_cases hc1 : cap = 1
  · have h0 : ts.length = 0 := by omega
    have hnil := List.eq_nil_of_length_eq_zero h0
    subst hnil
    subst hc1
    have ht0 : TokS w (some ⟨bk, of, none⟩) (1 - 1) [] := ⟨rfl, .inr ⟨_, rfl, fun j u hj => by simp at hj⟩⟩
    have HF := hide (FIN.out _ ht0 (fun a ha => by cases ha; rfl))
    clear ht0
    go_enter Try.func62, Try.ntmps62
    go_wp2_with fail
    refine bodyPost_ret (v := BTok.val t) (by simp [results, Try.results62, go_sem, BTok.val]) rfl ?_
    exact HF.out
  · have HF := hide (FIN.out _ HT4.out (fun a ha => by cases ha; rfl))
    have hcc : (cap == 1) = false := by simpa using hc1
    have hcd : decide (cap = 1) = false := by simpa using hc1
    go_enter Try.func62, Try.ntmps62
    go_wp2_with fail
    refine bodyPost_ret (v := BTok.val t) (by simp [results, Try.results62, go_sem, BTok.val]) rfl ?_
    exact HF.out
theorem only_of {p : Nat} {w w1 w2 : World} (h : Only p w w1) (hb : Below w1.heap.size w1 w2) : Only p w w2 := only_trans h (only_of_below hb)
set_option maxRecDepth 100000 in
theorem fail_any (p : Nat) (A : Option Addr) (cap : Nat) (ts : List BTok) (e l c : Int) (w : World) (h : RdX w p A cap ts 0 0 0) :
    Calls Try.prog 61 #[.pointer (some ⟨p, 0, none⟩), .int .i64 e, .agg #[.int .i64 l, .int .i64 c]] w fun e' w' => e' = .returned (.tuple #[]) ∧ Only p w w' ∧ RdX w' p A cap ts e l c := by
  have hp := lt_heap h.h
  have p1 := cell_heap (j := 1) h.h rfl
  have p2 := cell_heap (j := 2) h.h rfl
  have p3 := cell_heap (j := 3) h.h rfl
  have f1 := frozen_heap (j := 1) h.h
  have f2 := frozen_heap (j := 2) h.h
  have f3 := frozen_heap (j := 3) h.h
  have HH := hide h
  clear h
  go_enter Try.func61, Try.ntmps61
  go_wp2_with fail
  go_region
  go_wp2_with fail
  go_end0
  refine ⟨rfl, only_drew (only_alloc (only_set (only_set (only_set (only_refl p w) 1 _) 2 _) 3 _) _), ?_, ?_, HH.out.lt, HH.out.cp, HH.out.cm, HH.out.kz⟩
  · have h3 := heap_set (j := 3) (u := .int .i64 c) (heap_set (j := 2) (u := .int .i64 l) (heap_set (j := 1) (u := .int .i64 e) HH.out.h))
    exact heap_old (w := ((w.setCell ⟨p, 1, none⟩ (.int .i64 e)).setCell ⟨p, 2, none⟩ (.int .i64 l)).setCell ⟨p, 3, none⟩ (.int .i64 c)) h3
  · refine src_keep HH.out.t (fun a ha => ?_)
    have h1 := HH.out.lt a ha
    exact (only_drew (only_alloc (only_set (only_set (only_set (only_refl p w) 1 _) 2 _) 3 _) _)).block a.block (by omega) (fun e => by injection e with e; omega)
end Go.Proofs.Ytihmmmodimionaa.Tr
/- The reader of statements: words (printed by gen_tc.py). -/
namespace Go.Proofs.Ytihmmmodimionaa.Tr
open Go.RowKit Go.Proofs.Ytihmmmodimionaa Go.Proofs.Ytihmmmodimionaa.Lx

theorem infoS : (Try.prog.info? 9).map (fun i => (i.zero, i.size, i.bytes)) = some (some (.string { data := #[] }), 1, 16) := by kernel_rfl
theorem infoP : (Try.prog.info? 24).map (fun i => (i.zero, i.size, i.bytes)) = some (some (.agg #[.int .i64 0, .int .i64 0]), 2, 16) := by kernel_rfl
theorem row_at {w : World} {g : Nat} {cs : List Value} {t : TypeId} (h : w.heap[g]? = some (.cells cs.toArray t (0, 0))) : ∀ (j : Nat) (u : Value), cs[j]? = some u → w.cell? ((⟨g, 0, none⟩ : Addr).add j) = some u := by
  intro j u hj
  rw [show (⟨g, 0, none⟩ : Addr).add j = ⟨g, j, none⟩ by simp [Addr.add, eq_comm]]
  exact cell_heap h (by simpa using hj)
abbrev NodeC (vw vp : Value) (b : Bool) (vk : Value) : Obj := .cells #[vw, vp, .bool b, vk] 44
abbrev TokC (t : BTok) : Obj := .cells #[.int .u8 t.k, .string t.b, .int .i64 t.l, .int .i64 t.c] 34
/-- the node that is made and the token that was taken -/
structure WS (B D : Nat) (vw vp : Value) (t : BTok) (w : World) : Prop where
  n : w.heap[B]? = some (.cells #[vw, vp, .bool false, .slice none 0 0] 44 (0, 0))
  t : w.heap[D]? = some (.cells #[.int .u8 t.k, .string t.b, .int .i64 t.l, .int .i64 t.c] 34 (0, 0))
theorem WS.alloc {B D : Nat} {vw vp : Value} {t : BTok} {w : World} (h : WS B D vw vp t w) (o : Obj) : WS B D vw vp t (w.alloc o) := ⟨heap_old h.n, heap_old h.t⟩
theorem WS.drew {B D : Nat} {vw vp : Value} {t : BTok} {w : World} (h : WS B D vw vp t w) : WS B D vw vp t w.drew := ⟨h.n, h.t⟩
theorem WS.grow {B D : Nat} {vw vp : Value} {t : BTok} {w w' : World} (h : WS B D vw vp t w) {base size n : Nat} {e : TypeId} {v : Value} {xs : List Value} (ho : w.ownsRow base e size v n xs) (hg : w.grownBy w' v.ownBlock) (h1 : e ≠ 44) (h2 : e ≠ 34) : WS B D vw vp t w' :=
  ⟨heap_grown h.n hg (own_ne_row ho h.n h1), heap_grown h.t hg (own_ne_row ho h.t h2)⟩
/-- words, in the loop -/
structure Wd (p : Nat) (w wr : World) (A : Option Addr) (cap : Nat) (done rest : List BTok) (vw vp : Value) : Prop where
  o : Only p w wr
  n : wr.heap[w.heap.size]? = some (.cells #[vw, vp, .bool false, .slice none 0 0] 44 (0, 0))
  ow : wr.ownsRow w.heap.size 9 1 vw done.length (done.map fun t => .string t.b)
  op : wr.ownsRow w.heap.size 24 2 vp done.length (posC (done.map BTok.pos))
  r : RdX wr p A cap rest 0 0 0
theorem RdX.only {w w' : World} {p : Nat} {A : Option Addr} {cap : Nat} {ts : List BTok} {e l c : Int} (h : RdX w p A cap ts e l c) {row : Option Nat} (hg : w.grownBy w' row) (hr : ∀ b, row = some b → p < b) : RdX w' p A cap ts e l c := by
  have hp := lt_heap h.h
  refine ⟨heap_grown h.h hg (fun e => by have := hr p e; omega), src_keep h.t (fun a ha => ?_), h.lt, h.cp, h.cm, h.kz⟩
  have h1 := h.lt a ha
  exact hg.block a.block (by omega) (fun e => by have := hr _ e.symm; omega)
/-- in the drawn region: what stands at the world x -/
structure Wz (w w3 x : World) (D : Nat) (vw0 vp0 : Value) (t : BTok) (vw : Value) (dw : List BTok) (vp : Value) (dp : List BTok) : Prop where
  b : Below w.heap.size w3 x
  s : WS w.heap.size D vw0 vp0 t x
  ow : x.ownsRow w.heap.size 9 1 vw dw.length (dw.map fun t => .string t.b)
  op : x.ownsRow w.heap.size 24 2 vp dp.length (posC (dp.map BTok.pos))
section
variable {w w3 x x' : World} {D : Nat} {vw0 vp0 vw vp v' : Value} {t : BTok} {dw dp : List BTok}
theorem Wz.size (h : Wz w w3 x D vw0 vp0 t vw dw vp dp) : w.heap.size ≤ x.heap.size := Nat.le_of_lt (lt_heap h.s.n)
theorem Wz.alloc (h : Wz w w3 x D vw0 vp0 t vw dw vp dp) (o : Obj) : Wz w w3 (x.alloc o) D vw0 vp0 t vw dw vp dp := ⟨h.b.alloc h.size o, h.s.alloc o, h.ow.alloc o, h.op.alloc o⟩
theorem Wz.str (h : Wz w w3 x D vw0 vp0 t vw dw vp dp) {n : Nat} (hn : n = dw.length + 1) (ho : x'.ownsRow w.heap.size 9 1 v' n ((dw.map fun t => .string t.b) ++ [.string t.b])) (hg : x.grownBy x' vw.ownBlock) : Wz w w3 x' D vw0 vp0 t v' (dw ++ [t]) vp dp := by
  subst hn
  refine ⟨h.b.grown hg h.size (fun k e => (h.ow.lt k e).1), h.s.grow h.ow hg (by decide) (by decide), by rw [List.length_append, List.map_append]; exact ho, h.op.kept hg ?_⟩
  cases hv : vp.ownBlock with
  | none => exact .inl rfl
  | some g => exact .inr (fun e => own_types h.op h.ow (by decide) g hv e.symm)
theorem Wz.pos (h : Wz w w3 x D vw0 vp0 t vw dw vp dp) {n : Nat} (hn : n = dp.length + 1) (ho : x'.ownsRow w.heap.size 24 2 v' n (posC (dp.map BTok.pos) ++ [.int .i64 t.l, .int .i64 t.c])) (hg : x.grownBy x' vp.ownBlock) : Wz w w3 x' D vw0 vp0 t vw dw v' (dp ++ [t]) := by
  subst hn
  refine ⟨h.b.grown hg h.size (fun k e => (h.op.lt k e).1), h.s.grow h.op hg (by decide) (by decide), h.ow.kept hg ?_, by rw [List.length_append, List.map_append, posC_app]; exact ho⟩
  cases hv : vw.ownBlock with
  | none => exact .inl rfl
  | some g => exact .inr (fun e => own_types h.ow h.op (by decide) g hv e.symm)
theorem Wz.done (h : Wz w w3 x D vw0 vp0 t vw dw vp dw) {p : Nat} {A : Option Addr} {cap : Nat} {rest : List BTok} (hp : p < w.heap.size) (ho : Only p w w3) (hr : RdX w3 p A cap rest 0 0 0) : Wd p w ((x.setCell ⟨w.heap.size, 0, none⟩ vw).setCell ⟨w.heap.size, 1, none⟩ vp) A cap dw rest vw vp := by
  have hb : Below w.heap.size w3 ((x.setCell ⟨w.heap.size, 0, none⟩ vw).setCell ⟨w.heap.size, 1, none⟩ vp) := (h.b.setCell (p := ⟨w.heap.size, 0, none⟩) (Nat.le_refl _) vw).setCell (p := ⟨w.heap.size, 1, none⟩) (Nat.le_refl _) vp
  have hw := own_ne_row h.ow h.s.n (by decide)
  have hp' := own_ne_row h.op h.s.n (by decide)
  refine ⟨⟨hb.os.trans ho.os, hb.tape.trans ho.tape, hb.output.trans ho.output, Nat.le_trans ho.size hb.size, fun i hi hne => ?_⟩, heap_set (j := 1) (u := vp) (heap_set (j := 0) (u := vw) h.s.n), ownsRow_setCell_other (ownsRow_setCell_other h.ow hw _) hw _, ownsRow_setCell_other (ownsRow_setCell_other h.op hp' _) hp' _, ?_, ?_, hr.lt, hr.cp, hr.cm, hr.kz⟩
  · rw [hb.block i hi]
    exact ho.block i hi hne
  · rw [hb.block p hp]
    exact hr.h
  · refine src_keep hr.t (fun a ha => hb.block a.block ?_)
    have := hr.lt a ha
    omega
end
/-- what words hands back -/
def WordsOut (p : Nat) (ts : List BTok) (w : World) (e' : Ending) (w' : World) : Prop :=
  ∃ A cap vw vp, e' = .returned (.agg #[vw, vp, .bool false, .slice none 0 0]) ∧ Wd p w w' A cap (wordsT ts) (behindT ts) vw vp
theorem Wd.back {p : Nat} {w wr : World} {A : Option Addr} {cap : Nat} {done rest : List BTok} {vw vp : Value} (h : Wd p w wr A cap done rest vw vp) (hp : p < w.heap.size) : Wd p w ((((wr.setCell ⟨w.heap.size, 0, none⟩ vw).setCell ⟨w.heap.size, 1, none⟩ vp).setCell ⟨w.heap.size, 2, none⟩ (.bool false)).setCell ⟨w.heap.size, 3, none⟩ (.slice none 0 0)) A cap done rest vw vp := by
  have hB := lt_heap h.n
  have hw := own_ne_row h.ow h.n (by decide)
  have hp' := own_ne_row h.op h.n (by decide)
  have hb : Below w.heap.size wr ((((wr.setCell ⟨w.heap.size, 0, none⟩ vw).setCell ⟨w.heap.size, 1, none⟩ vp).setCell ⟨w.heap.size, 2, none⟩ (.bool false)).setCell ⟨w.heap.size, 3, none⟩ (.slice none 0 0)) :=
    ((((Below.refl _ wr).setCell (p := ⟨w.heap.size, 0, none⟩) (Nat.le_refl _) vw).setCell (p := ⟨w.heap.size, 1, none⟩) (Nat.le_refl _) vp).setCell (p := ⟨w.heap.size, 2, none⟩) (Nat.le_refl _) _).setCell (p := ⟨w.heap.size, 3, none⟩) (Nat.le_refl _) _
  refine ⟨⟨hb.os.trans h.o.os, hb.tape.trans h.o.tape, hb.output.trans h.o.output, Nat.le_trans h.o.size hb.size, fun i hi hne => ?_⟩, ?_, ownsRow_setCell_other (ownsRow_setCell_other (ownsRow_setCell_other (ownsRow_setCell_other h.ow hw _) hw _) hw _) hw _, ownsRow_setCell_other (ownsRow_setCell_other (ownsRow_setCell_other (ownsRow_setCell_other h.op hp' _) hp' _) hp' _) hp' _, ?_, ?_, h.r.lt, h.r.cp, h.r.cm, h.r.kz⟩
  · rw [hb.block i hi]
    exact h.o.block i hi hne
  · exact heap_set (j := 3) (u := .slice none 0 0) (heap_set (j := 2) (u := .bool false) (heap_set (j := 1) (u := vp) (heap_set (j := 0) (u := vw) h.n)))
  · rw [hb.block p hp]
    exact h.r.h
  · refine src_keep h.r.t (fun a ha => hb.block a.block ?_)
    have := h.r.lt a ha
    omega
set_option maxHeartbeats 8000000 in
set_option maxRecDepth 100000 in
theorem words_any (p : Nat) (A : Option Addr) (cap : Nat) (ts : List BTok) (w : World) (h : RdX w p A cap ts 0 0 0) (hl : ts.length ≤ 100000) (hcm : cap ≤ maxLen) :
    Calls Try.prog 81 #[.pointer (some ⟨p, 0, none⟩)] w (WordsOut p ts w) := by
  have hp := lt_heap h.h
  obtain ⟨si, sz0, sz, ss, sb⟩ := info_parts infoS
  obtain ⟨qi, qz0, qz, qs, qb⟩ := info_parts infoP
  have HST : Hid (Wd p w (w.alloc (NodeC (.slice none 0 0) (.slice none 0 0) false (.slice none 0 0))) A cap [] ts (.slice none 0 0) (.slice none 0 0)) := hide ⟨only_alloc (only_refl p w) _, heap_new w _, ⟨rfl, .inl ⟨rfl, rfl⟩⟩, ⟨rfl, .inl ⟨rfl, rfl⟩⟩, h.below (bel_one w _)⟩
  clear h
  go_enter Try.func81, Try.ntmps81
  go_wp2_with fail
  go_loopg [3] ts.length (fun g _ wr => ∃ (A' : Option Addr) (cap' : Nat) (done rest : List BTok) (vw vp : Value), Wd p w wr A' cap' done rest vw vp ∧ rest.length ≤ g ∧ cap' ≤ maxLen ∧ done.length + rest.length ≤ 100000 ∧ wordsT ts = done ++ wordsT rest ∧ behindT ts = behindT rest)
  case atStart => exact ⟨A, cap, [], ts, _, _, HST.out, Nat.le_refl _, hcm, by simpa using hl, rfl, rfl⟩
  case round =>
    clear HST
    obtain ⟨A', cap', done, rest, vw, vp, hX, hg, hcap, hlen, e1, e2⟩ := hrel
    have HX := hide hX
    have HN := hide (next_any p A' cap' rest 0 0 0 wr hX.r (by omega))
    have HE := hide (And.intro e1 e2)
    have n0 := cell_heap (j := 0) hX.n rfl
    have n1 := cell_heap (j := 1) hX.n rfl
    have n2 := cell_heap (j := 2) hX.n rfl
    have n3 := cell_heap (j := 3) hX.n rfl
    clear hX e1 e2
    by_cases hk : kindT rest = 1
    · obtain ⟨t, rest', rfl⟩ : ∃ t r, rest = t :: r := by
        cases rest with
        | nil => simp [kindT] at hk
        | cons t r => exact ⟨t, r, rfl⟩
      have hk1 : t.k = 1 := hk
      rw [hk] at HN
      have HK := hide hk1
      clear hk hk1 n0 n1 n2 n3
      go_wp2_with fail
      refine HN.out.mono ?_
      rintro e w2 ⟨rfl, rfl⟩
      have HOF := hide (off_any p A' cap' t rest' 0 0 0 wr HX.out.r (by simp at hlen; omega) hcap)
      clear HN
      go_wp2_with fail
      refine HOF.out.mono ?_
      rintro e w3 ⟨rfl, ho3, A3, hr3⟩
      have hB : w.heap.size < wr.heap.size := lt_heap HX.out.n
      have hn3 := only_heap ho3 HX.out.n (by omega)
      have how3 := HX.out.ow.kept ho3 (by cases hv : vw.ownBlock with
        | none => exact .inl rfl
        | some g => exact .inr (fun e => by have := (HX.out.ow.lt g hv).1; injection e with e; omega))
      have hop3 := HX.out.op.kept ho3 (by cases hv : vp.ownBlock with
        | none => exact .inl rfl
        | some g => exact .inr (fun e => by have := (HX.out.op.lt g hv).1; injection e with e; omega))
      have HO3 := hide (only_trans HX.out.o ho3)
      have hB3 : w.heap.size < w3.heap.size := Nat.lt_of_lt_of_le hB ho3.size
      have HR3 := hide hr3
      have hws : WS w.heap.size w3.heap.size vw vp t (w3.alloc (TokC t)).drew := ⟨heap_old hn3, heap_new w3 _⟩
      have HWS := hide hws
      have HOW := hide (how3.alloc (TokC t))
      have HOP := hide (hop3.alloc (TokC t))
      have k0 := fun x => cell_heap (j := 0) (pin_in hws x).n rfl
      have k1 := fun x => cell_heap (j := 1) (pin_in hws x).n rfl
      have k2 := fun x => cell_heap (j := 1) (pin_in hws x).t rfl
      have k3 := fun x => cell_heap (j := 2) (pin_in hws x).t rfl
      have k4 := fun x => cell_heap (j := 3) (pin_in hws x).t rfl
      obtain ⟨Aw, cw, rfl⟩ := own_slice how3
      obtain ⟨Ap, cp, rfl⟩ := own_slice hop3
      clear HOF ho3 hn3 how3 hop3 hr3 hws
      go_wp2_with fail
      refine wp_region_tree (WS w.heap.size w3.heap.size (.slice Aw done.length cw) (.slice Ap done.length cp) t) (fun k => ([13, 14, 15] : List Nat).contains k) (.take [0, 1, 2, 3, 6, 7, 8, 9] (.fork 4 (.fork 5 (.take [12] (.step 10 (.step 11 (.step 13 (.step 14 (.step 15 .done)))))) 10 (.step 5 (.take [12] (.step 11 (.step 13 (.step 14 (.step 15 .done))))))) 10 (.step 4 (.step 5 (.take [12] (.step 11 (.step 13 (.step 14 (.step 15 .done))))))))) (by kernel_rfl) (by kernel_rfl) (by kernel_rfl) (by kernel_rfl) (.take (.cons (.zero) (.cons (.succ (.zero)) (.cons (.succ (.succ (.zero))) (.cons (.succ (.succ (.succ (.zero)))) (.cons (.succ (.succ (.succ (.succ (.succ (.succ (.zero))))))) (.cons (.succ (.succ (.succ (.succ (.succ (.succ (.succ (.zero)))))))) (.cons (.succ (.succ (.succ (.succ (.succ (.succ (.succ (.succ (.zero))))))))) (.cons (.succ (.succ (.succ (.succ (.succ (.succ (.succ (.succ (.succ (.zero)))))))))) .nil)))))))) (.fork (.succ (.succ (.succ (.succ (.zero))))) rfl (.fork (.succ (.succ (.succ (.succ (.succ (.zero)))))) rfl (.take (.cons (.succ (.succ (.succ (.succ (.succ (.succ (.succ (.succ (.succ (.succ (.succ (.succ (.zero))))))))))))) .nil) (.step (.succ (.succ (.succ (.succ (.succ (.succ (.succ (.succ (.succ (.succ (.zero))))))))))) rfl (.step (.succ (.succ (.succ (.succ (.succ (.succ (.succ (.succ (.succ (.succ (.succ (.zero)))))))))))) rfl (.step (.succ (.succ (.succ (.succ (.succ (.succ (.succ (.succ (.succ (.succ (.succ (.succ (.succ (.zero)))))))))))))) rfl (.step (.succ (.succ (.succ (.succ (.succ (.succ (.succ (.succ (.succ (.succ (.succ (.succ (.succ (.succ (.zero))))))))))))))) rfl (.step (.succ (.succ (.succ (.succ (.succ (.succ (.succ (.succ (.succ (.succ (.succ (.succ (.succ (.succ (.succ (.zero)))))))))))))))) rfl .done)))))) (.succ (.succ (.succ (.succ (.succ (.succ (.succ (.succ (.succ (.succ (.zero))))))))))) rfl (.step (.succ (.succ (.succ (.succ (.succ (.zero)))))) rfl (.take (.cons (.succ (.succ (.succ (.succ (.succ (.succ (.succ (.succ (.succ (.succ (.succ (.succ (.zero))))))))))))) .nil) (.step (.succ (.succ (.succ (.succ (.succ (.succ (.succ (.succ (.succ (.succ (.succ (.zero)))))))))))) rfl (.step (.succ (.succ (.succ (.succ (.succ (.succ (.succ (.succ (.succ (.succ (.succ (.succ (.succ (.zero)))))))))))))) rfl (.step (.succ (.succ (.succ (.succ (.succ (.succ (.succ (.succ (.succ (.succ (.succ (.succ (.succ (.succ (.zero))))))))))))))) rfl (.step (.succ (.succ (.succ (.succ (.succ (.succ (.succ (.succ (.succ (.succ (.succ (.succ (.succ (.succ (.succ (.zero)))))))))))))))) rfl .done))))))) (.succ (.succ (.succ (.succ (.succ (.succ (.succ (.succ (.succ (.succ (.zero))))))))))) rfl (.step (.succ (.succ (.succ (.succ (.zero))))) rfl (.step (.succ (.succ (.succ (.succ (.succ (.zero)))))) rfl (.take (.cons (.succ (.succ (.succ (.succ (.succ (.succ (.succ (.succ (.succ (.succ (.succ (.succ (.zero))))))))))))) .nil) (.step (.succ (.succ (.succ (.succ (.succ (.succ (.succ (.succ (.succ (.succ (.succ (.zero)))))))))))) rfl (.step (.succ (.succ (.succ (.succ (.succ (.succ (.succ (.succ (.succ (.succ (.succ (.succ (.succ (.zero)))))))))))))) rfl (.step (.succ (.succ (.succ (.succ (.succ (.succ (.succ (.succ (.succ (.succ (.succ (.succ (.succ (.succ (.zero))))))))))))))) rfl (.step (.succ (.succ (.succ (.succ (.succ (.succ (.succ (.succ (.succ (.succ (.succ (.succ (.succ (.succ (.succ (.zero)))))))))))))))) rfl .done))))))))) ?hQ ?hS ?_
      case hQ => exact fun _ _ _ _ _ h => h
      case hS => exact HWS.out
      refine wpT_take ?_
      repeat (first | go_big_quiet_step ((fail)) | quiet_step ((fail)))
      refine wpQuiet_nil ?_
      have HZ := hide (show Wz w w3 (w3.alloc (TokC t)).drew w3.heap.size (.slice Aw done.length cw) (.slice Ap done.length cp) t (.slice Aw done.length cw) done (.slice Ap done.length cp) done from ⟨(((Below.refl _ w3).alloc (Nat.le_of_lt hB3) _).drew), HWS.out, HOW.out, HOP.out⟩)
      clear HWS HOW HOP
      generalize (w3.alloc (TokC t)).drew = x0 at *
      refine wpT_fork ?_ ?_
      · refine wpT_step rfl ?_
        intro K1 hK1
        go_wp2_with fail
        have HZq := hide (HZ.out.alloc (Obj.cells #[.string t.b] 9))
        have HS := hide (heap_new x0 (Obj.cells #[.string t.b] 9))
        refine hK1.out _ _ (fun _ => pin_mem HZq.out.s) ?_
        clear HZ hK1; have HZ := HZq; clear HZq
        generalize hbks : x0.heap.size = bks at *
        generalize x0.alloc (Obj.cells #[.string t.b] 9) = x1 at *
        clear hbks
        refine wpT_fork ?_ ?_
        · refine wpT_step rfl ?_
          intro K1 hK1
          refine wp_append_lies _ (.tmp 10) (.tmp 13) 41 rfl w.heap.size 9 si _ 1 16 Try.underlying41 sz0 sz ss sb rfl (by decide) _ done.length (done.map fun (t : BTok) => Value.string t.b) rfl HZ.out.ow ⟨bks, 0, none⟩ 1 1 [.string t.b] rfl rfl (row_at HS.out) ?ones (by omega) ?c63 ?cby HZ.out.size _ rfl ?_
          case ones => simp [Value.oneCell']
          case c63 => simp at hlen; unfold maxLen; omega
          case cby => simp at hlen; omega
          intro gs cgs x2 hown hgrow _ _
          have HZq := hide (HZ.out.str rfl hown hgrow)
          refine hK1.out _ _ (fun _ => pin_mem HZq.out.s) ?_
          clear HZ hK1 hown hgrow; have HZ := HZq; clear HZq
          refine wpT_take ?_
          repeat (first | go_big_quiet_step ((fail)) | quiet_step ((fail)))
          refine wpQuiet_nil ?_
          refine wpT_step rfl ?_
          intro K1 hK1
          go_wp2_with fail
          have HZq := hide (HZ.out.alloc (Obj.cells #[.int .i64 t.l, .int .i64 t.c] 24))
          have HP := hide (heap_new x2 (Obj.cells #[.int .i64 t.l, .int .i64 t.c] 24))
          refine hK1.out _ _ (fun _ => pin_mem HZq.out.s) ?_
          clear HZ hK1; have HZ := HZq; clear HZq
          generalize hbkp : x2.heap.size = bkp at *
          generalize x2.alloc (Obj.cells #[.int .i64 t.l, .int .i64 t.c] 24) = x3 at *
          clear hbkp
          refine wpT_step rfl ?_
          intro K1 hK1
          refine wp_append_lies _ (.tmp 16) (.tmp 19) 42 rfl w.heap.size 24 qi _ 2 16 Try.underlying42 qz0 qz qs qb rfl (by decide) _ done.length (posC (done.map BTok.pos)) rfl HZ.out.op ⟨bkp, 0, none⟩ 1 1 [.int .i64 t.l, .int .i64 t.c] rfl rfl (row_at HP.out) ?ones (by omega) ?c63 ?cby HZ.out.size _ rfl ?_
          case ones => simp [Value.oneCell']
          case c63 => simp at hlen; unfold maxLen; omega
          case cby => simp at hlen; omega
          intro gp cgp x4 hown hgrow _ _
          have HZq := hide (HZ.out.pos rfl hown hgrow)
          refine hK1.out _ _ (fun _ => pin_mem HZq.out.s) ?_
          clear HZ hK1 hown hgrow; have HZ := HZq; clear HZq
          have hcs := cell_heap (j := 0) HZ.out.s.n rfl
          have hcf := frozen_heap (j := 0) HZ.out.s.n
          refine wpT_step rfl ?_
          intro K1 hK1
          go_wp2_with fail
          refine hK1.out _ _ (fun h => by cases h) ?_
          clear hK1 hcs hcf
          refine wpT_step rfl ?_
          intro K1 hK1
          go_wp2_with fail
          refine hK1.out _ _ (fun h => by cases h) ?_
          clear hK1
          have hn2 := heap_set (j := 0) (u := .slice (some ⟨gs, 0, none⟩) (done.length + 1) cgs) HZ.out.s.n
          have hcs := cell_heap (j := 1) hn2 rfl
          have hcf := frozen_heap (j := 1) hn2
          refine wpT_step rfl ?_
          intro K1 hK1
          go_wp2_with fail
          refine hK1.out _ _ (fun h => by cases h) ?_
          clear hK1 hcs hcf hn2
          refine wpT_done ?_
          have HD := hide (HZ.out.done hp HO3.out HR3.out)
          go_wp2_with fail
          go_roundg rest'.length
          case rel => exact ⟨_, _, done ++ [t], rest', _, _, HD.out, Nat.le_refl _, by omega, by simp at hlen ⊢; omega, by rw [HE.out.1, wordsT, if_pos HK.out]; simp, by rw [HE.out.2, behindT, if_pos HK.out]⟩
          case measure => simp at hg; omega
        · refine wpT_step rfl ?_
          intro K1 hK1
          go_wp2_with fail
          have HZq := hide (HZ.out.alloc (Obj.cells #[.int .i64 t.l, .int .i64 t.c] 24))
          have HP := hide (heap_new x1 (Obj.cells #[.int .i64 t.l, .int .i64 t.c] 24))
          have HSq := hide (heap_old (p := (Obj.cells #[.int .i64 t.l, .int .i64 t.c] 24)) HS.out); clear HS; have HS := HSq; clear HSq
          refine hK1.out _ _ (fun _ => pin_mem HZq.out.s) ?_
          clear HZ hK1; have HZ := HZq; clear HZq
          generalize hbkp : x1.heap.size = bkp at *
          generalize x1.alloc (Obj.cells #[.int .i64 t.l, .int .i64 t.c] 24) = x2 at *
          clear hbkp
          refine wpT_step rfl ?_
          intro K1 hK1
          refine wp_append_lies _ (.tmp 10) (.tmp 13) 41 rfl w.heap.size 9 si _ 1 16 Try.underlying41 sz0 sz ss sb rfl (by decide) _ done.length (done.map fun (t : BTok) => Value.string t.b) rfl HZ.out.ow ⟨bks, 0, none⟩ 1 1 [.string t.b] rfl rfl (row_at HS.out) ?ones (by omega) ?c63 ?cby HZ.out.size _ rfl ?_
          case ones => simp [Value.oneCell']
          case c63 => simp at hlen; unfold maxLen; omega
          case cby => simp at hlen; omega
          intro gs cgs x3 hown hgrow _ _
          have HZq := hide (HZ.out.str rfl hown hgrow)
          have HPq := hide (heap_grown HP.out hgrow (own_ne_row HZ.out.ow HP.out (by decide))); clear HP; have HP := HPq; clear HPq
          refine hK1.out _ _ (fun _ => pin_mem HZq.out.s) ?_
          clear HZ hK1 hown hgrow; have HZ := HZq; clear HZq
          refine wpT_take ?_
          repeat (first | go_big_quiet_step ((fail)) | quiet_step ((fail)))
          refine wpQuiet_nil ?_
          refine wpT_step rfl ?_
          intro K1 hK1
          refine wp_append_lies _ (.tmp 16) (.tmp 19) 42 rfl w.heap.size 24 qi _ 2 16 Try.underlying42 qz0 qz qs qb rfl (by decide) _ done.length (posC (done.map BTok.pos)) rfl HZ.out.op ⟨bkp, 0, none⟩ 1 1 [.int .i64 t.l, .int .i64 t.c] rfl rfl (row_at HP.out) ?ones (by omega) ?c63 ?cby HZ.out.size _ rfl ?_
          case ones => simp [Value.oneCell']
          case c63 => simp at hlen; unfold maxLen; omega
          case cby => simp at hlen; omega
          intro gp cgp x4 hown hgrow _ _
          have HZq := hide (HZ.out.pos rfl hown hgrow)
          refine hK1.out _ _ (fun _ => pin_mem HZq.out.s) ?_
          clear HZ hK1 hown hgrow; have HZ := HZq; clear HZq
          have hcs := cell_heap (j := 0) HZ.out.s.n rfl
          have hcf := frozen_heap (j := 0) HZ.out.s.n
          refine wpT_step rfl ?_
          intro K1 hK1
          go_wp2_with fail
          refine hK1.out _ _ (fun h => by cases h) ?_
          clear hK1 hcs hcf
          refine wpT_step rfl ?_
          intro K1 hK1
          go_wp2_with fail
          refine hK1.out _ _ (fun h => by cases h) ?_
          clear hK1
          have hn2 := heap_set (j := 0) (u := .slice (some ⟨gs, 0, none⟩) (done.length + 1) cgs) HZ.out.s.n
          have hcs := cell_heap (j := 1) hn2 rfl
          have hcf := frozen_heap (j := 1) hn2
          refine wpT_step rfl ?_
          intro K1 hK1
          go_wp2_with fail
          refine hK1.out _ _ (fun h => by cases h) ?_
          clear hK1 hcs hcf hn2
          refine wpT_done ?_
          have HD := hide (HZ.out.done hp HO3.out HR3.out)
          go_wp2_with fail
          go_roundg rest'.length
          case rel => exact ⟨_, _, done ++ [t], rest', _, _, HD.out, Nat.le_refl _, by omega, by simp at hlen ⊢; omega, by rw [HE.out.1, wordsT, if_pos HK.out]; simp, by rw [HE.out.2, behindT, if_pos HK.out]⟩
          case measure => simp at hg; omega
      · refine wpT_step rfl ?_
        intro K1 hK1
        go_wp2_with fail
        have HZq := hide (HZ.out.alloc (Obj.cells #[.int .i64 t.l, .int .i64 t.c] 24))
        have HP := hide (heap_new x0 (Obj.cells #[.int .i64 t.l, .int .i64 t.c] 24))
        refine hK1.out _ _ (fun _ => pin_mem HZq.out.s) ?_
        clear HZ hK1; have HZ := HZq; clear HZq
        generalize hbkp : x0.heap.size = bkp at *
        generalize x0.alloc (Obj.cells #[.int .i64 t.l, .int .i64 t.c] 24) = x1 at *
        clear hbkp
        refine wpT_step rfl ?_
        intro K1 hK1
        go_wp2_with fail
        have HZq := hide (HZ.out.alloc (Obj.cells #[.string t.b] 9))
        have HS := hide (heap_new x1 (Obj.cells #[.string t.b] 9))
        have HPq := hide (heap_old (p := (Obj.cells #[.string t.b] 9)) HP.out); clear HP; have HP := HPq; clear HPq
        refine hK1.out _ _ (fun _ => pin_mem HZq.out.s) ?_
        clear HZ hK1; have HZ := HZq; clear HZq
        generalize hbks : x1.heap.size = bks at *
        generalize x1.alloc (Obj.cells #[.string t.b] 9) = x2 at *
        clear hbks
        refine wpT_step rfl ?_
        intro K1 hK1
        refine wp_append_lies _ (.tmp 10) (.tmp 13) 41 rfl w.heap.size 9 si _ 1 16 Try.underlying41 sz0 sz ss sb rfl (by decide) _ done.length (done.map fun (t : BTok) => Value.string t.b) rfl HZ.out.ow ⟨bks, 0, none⟩ 1 1 [.string t.b] rfl rfl (row_at HS.out) ?ones (by omega) ?c63 ?cby HZ.out.size _ rfl ?_
        case ones => simp [Value.oneCell']
        case c63 => simp at hlen; unfold maxLen; omega
        case cby => simp at hlen; omega
        intro gs cgs x3 hown hgrow _ _
        have HZq := hide (HZ.out.str rfl hown hgrow)
        have HPq := hide (heap_grown HP.out hgrow (own_ne_row HZ.out.ow HP.out (by decide))); clear HP; have HP := HPq; clear HPq
        refine hK1.out _ _ (fun _ => pin_mem HZq.out.s) ?_
        clear HZ hK1 hown hgrow; have HZ := HZq; clear HZq
        refine wpT_take ?_
        repeat (first | go_big_quiet_step ((fail)) | quiet_step ((fail)))
        refine wpQuiet_nil ?_
        refine wpT_step rfl ?_
        intro K1 hK1
        refine wp_append_lies _ (.tmp 16) (.tmp 19) 42 rfl w.heap.size 24 qi _ 2 16 Try.underlying42 qz0 qz qs qb rfl (by decide) _ done.length (posC (done.map BTok.pos)) rfl HZ.out.op ⟨bkp, 0, none⟩ 1 1 [.int .i64 t.l, .int .i64 t.c] rfl rfl (row_at HP.out) ?ones (by omega) ?c63 ?cby HZ.out.size _ rfl ?_
        case ones => simp [Value.oneCell']
        case c63 => simp at hlen; unfold maxLen; omega
        case cby => simp at hlen; omega
        intro gp cgp x4 hown hgrow _ _
        have HZq := hide (HZ.out.pos rfl hown hgrow)
        refine hK1.out _ _ (fun _ => pin_mem HZq.out.s) ?_
        clear HZ hK1 hown hgrow; have HZ := HZq; clear HZq
        have hcs := cell_heap (j := 0) HZ.out.s.n rfl
        have hcf := frozen_heap (j := 0) HZ.out.s.n
        refine wpT_step rfl ?_
        intro K1 hK1
        go_wp2_with fail
        refine hK1.out _ _ (fun h => by cases h) ?_
        clear hK1 hcs hcf
        refine wpT_step rfl ?_
        intro K1 hK1
        go_wp2_with fail
        refine hK1.out _ _ (fun h => by cases h) ?_
        clear hK1
        have hn2 := heap_set (j := 0) (u := .slice (some ⟨gs, 0, none⟩) (done.length + 1) cgs) HZ.out.s.n
        have hcs := cell_heap (j := 1) hn2 rfl
        have hcf := frozen_heap (j := 1) hn2
        refine wpT_step rfl ?_
        intro K1 hK1
        go_wp2_with fail
        refine hK1.out _ _ (fun h => by cases h) ?_
        clear hK1 hcs hcf hn2
        refine wpT_done ?_
        have HD := hide (HZ.out.done hp HO3.out HR3.out)
        go_wp2_with fail
        go_roundg rest'.length
        case rel => exact ⟨_, _, done ++ [t], rest', _, _, HD.out, Nat.le_refl _, by omega, by simp at hlen ⊢; omega, by rw [HE.out.1, wordsT, if_pos HK.out]; simp, by rw [HE.out.2, behindT, if_pos HK.out]⟩
        case measure => simp at hg; omega
    · have hkb : (kindT rest == 1) = false := by simpa using hk
      have e3 : wordsT rest = [] ∧ behindT rest = rest := by
        cases rest with
        | nil => exact ⟨rfl, rfl⟩
        | cons t r =>
          have hk1 : ¬ t.k = 1 := hk
          exact ⟨by rw [wordsT, if_neg hk1], by rw [behindT, if_neg hk1]⟩
      have HF := hide (show Wd p w ((((wr.setCell ⟨w.heap.size, 0, none⟩ vw).setCell ⟨w.heap.size, 1, none⟩ vp).setCell ⟨w.heap.size, 2, none⟩ (.bool false)).setCell ⟨w.heap.size, 3, none⟩ (.slice none 0 0)) A' cap' (wordsT ts) (behindT ts) vw vp from by
        rw [HE.out.1, HE.out.2, e3.1, e3.2, List.append_nil]
        exact HX.out.back hp)
      have g0 := frozen_heap (j := 0) HX.out.n
      have g1 := frozen_heap (j := 1) HX.out.n
      have g2 := frozen_heap (j := 2) HX.out.n
      have g3 := frozen_heap (j := 3) HX.out.n
      obtain ⟨Aw, cw, rfl⟩ := own_slice HX.out.ow
      obtain ⟨Ap, cp, rfl⟩ := own_slice HX.out.op
      clear hk e3
      go_wp2_with fail
      refine HN.out.mono ?_
      rintro e w2 ⟨rfl, rfl⟩
      clear HN HX HE
      go_wp2_with fail
      generalize (((wr.setCell ⟨w.heap.size, 0, none⟩ (.slice Aw done.length cw)).setCell ⟨w.heap.size, 1, none⟩ (.slice Ap done.length cp)).setCell ⟨w.heap.size, 2, none⟩ (.bool false)).setCell ⟨w.heap.size, 3, none⟩ (.slice none 0 0) = wf at *
      have q0 := cell_heap (j := 0) HF.out.n rfl
      have q1 := cell_heap (j := 1) HF.out.n rfl
      have q2 := cell_heap (j := 2) HF.out.n rfl
      have q3 := cell_heap (j := 3) HF.out.n rfl
      refine bodyPost_ret (v := .agg #[.slice Aw done.length cw, .slice Ap done.length cp, .bool false, .slice none 0 0]) (by simp [results, Try.results81, go_sem, q0, q1, q2, q3]) rfl ?_
      exact ⟨A', cap', _, _, rfl, HF.out⟩
end Go.Proofs.Ytihmmmodimionaa.Tr
