import Derived.Test.YtihmmmodimionaaC
import Derived.StillTailTactics
namespace Go.Proofs.Ytihmmmodimionaa.Lx
open Go.RowKit

theorem take_int (R : Nat) (b : ByteArray) (m : Int) (n : Nat) (l c : Int) (w : World) (hm : m = n) (hn : n ≤ b.size) (hl : 1 ≤ l) (hl2 : l + n ≤ 1000000) (hc : 1 ≤ c) (hc2 : c + n ≤ 1000000) (hr : RdR w R b l c) :
    Calls Try.prog 53 #[.pointer (some ⟨R, 0, none⟩), .int .i64 m] w fun e w' => e = .returned (.string (b.extract 0 n)) ∧ Only R w w' ∧ RdR w' R (b.extract n b.size) (adv ((T b).take n) l c).1 (adv ((T b).take n) l c).2 := by
  subst hm
  exact take_any R b n l c w hn hl hl2 hc hc2 hr

abbrev TokR (w : World) (g : Nat) (k : Int) (t : ByteArray) (l c : Int) : Prop := w.heap[g]? = some (.cells #[.int .u8 k, .string t, .int .i64 l, .int .i64 c] 34 (0, 0))
/-- what stands while token runs: its own three blocks, the reader -/
structure TS (w : World) (R : Nat) (b : ByteArray) (l c l0 c0 : Int) (k : Int) (t : ByteArray) (wv : World) : Prop where
  v : wv.heap[w.heap.size]? = some (.cells #[.pointer (some ⟨R, 0, none⟩)] 67 (0, 0))
  z : TokR wv (w.heap.size + 1) 0 { data := #[] } 0 0
  t_ : TokR wv (w.heap.size + 2) k t l0 c0
  r : RdR wv R b l c
  o : Only R w wv
  lt : R < w.heap.size
theorem only_alloc {R : Nat} {a w : World} (h : Only R a w) (o : Obj) : Only R a (w.alloc o) :=
  ⟨h.os, h.tape, h.output, Nat.le_trans h.size (by simp), fun i hi hne => (Below.heap_alloc w o i (Nat.lt_of_lt_of_le hi h.size)).trans (h.block i hi hne)⟩
theorem only_trans {R : Nat} {a b c : World} (h : Only R a b) (k : Only R b c) : Only R a c :=
  ⟨k.os.trans h.os, k.tape.trans h.tape, k.output.trans h.output, Nat.le_trans h.size k.size, fun i hi hne => (k.block i (Nat.lt_of_lt_of_le hi h.size) hne).trans (h.block i hi hne)⟩
theorem only_drew {R : Nat} {a w : World} (h : Only R a w) : Only R a w.drew := ⟨h.os, h.tape, h.output, h.size, h.block⟩
theorem only_new {R g : Nat} {a w : World} (h : Only R a w) (hg : a.heap.size ≤ g) (j : Nat) (u : Value) : Only R a (w.setCell ⟨g, j, none⟩ u) :=
  ⟨h.os, h.tape, h.output, by simpa [World.setCell] using h.size, fun i hi hne => (Below.heap_setCell w ⟨g, j, none⟩ u i (by show i ≠ g; omega)).trans (h.block i hi hne)⟩

abbrev W3 (w : World) (R : Nat) (l c : Int) : World := ((w.alloc (Obj.cells #[.pointer (some ⟨R, 0, none⟩)] 67)).alloc (Obj.cells #[.int .u8 0, .string { data := #[] }, .int .i64 0, .int .i64 0] 34)).alloc (Obj.cells #[.int .u8 1, .string { data := #[] }, .int .i64 l, .int .i64 c] 34)
theorem ts_start (w : World) (R : Nat) (b : ByteArray) (l c : Int) (hr : RdR w R b l c) : TS w R b l c l c 1 { data := #[] } (W3 w R l c) := by
  refine ⟨heap_old (heap_old (heap_new _ _)), ?_, ?_, heap_old (heap_old (heap_old hr)), only_alloc (only_alloc (only_alloc (only_refl _ _) _) _) _, lt_heap hr⟩
  · exact heap_old (heap_new2 _ _ _)
  · have h := heap_new2 (w.alloc (Obj.cells #[.pointer (some ⟨R, 0, none⟩)] 67)) (Obj.cells #[.int .u8 0, .string { data := #[] }, .int .i64 0, .int .i64 0] 34) (Obj.cells #[.int .u8 1, .string { data := #[] }, .int .i64 l, .int .i64 c] 34)
    rwa [World.size_alloc] at h
/-- behind take -/
theorem TS.took {w : World} {R : Nat} {b b' : ByteArray} {l c l0 c0 k l' c' : Int} {t : ByteArray} {wv wx : World} (h : TS w R b l c l0 c0 k t wv) (ho : Only R wv wx) (hr : RdR wx R b' l' c') : TS w R b' l' c' l0 c0 k t wx :=
  ⟨only_heap ho h.v (by have := h.lt; omega), only_heap ho h.z (by have := h.lt; omega), only_heap ho h.t_ (by have := h.lt; omega), hr, only_trans h.o ho, h.lt⟩
theorem TS.drew {w : World} {R : Nat} {b : ByteArray} {l c l0 c0 k : Int} {t : ByteArray} {wv : World} (h : TS w R b l c l0 c0 k t wv) : TS w R b l c l0 c0 k t wv.drew := ⟨h.v, h.z, h.t_, h.r, only_drew h.o, h.lt⟩
/-- a store into the token's own block -/
theorem TS.set_t {w : World} {R : Nat} {b : ByteArray} {l c l0 c0 k : Int} {t : ByteArray} {wv : World} (h : TS w R b l c l0 c0 k t wv) (t' : ByteArray) : TS w R b l c l0 c0 k t' (wv.setCell ⟨w.heap.size + 2, 1, none⟩ (.string t')) := by
  have hlt := h.lt
  exact ⟨heap_far h.v (by simp), heap_far h.z (by simp), heap_set h.t_, heap_far h.r (by show R ≠ _; simp only; omega), only_new h.o (by simp) _ _, hlt⟩
theorem TS.set_k {w : World} {R : Nat} {b : ByteArray} {l c l0 c0 k : Int} {t : ByteArray} {wv : World} (h : TS w R b l c l0 c0 k t wv) (k' : Int) : TS w R b l c l0 c0 k' t (wv.setCell ⟨w.heap.size + 2, 0, none⟩ (.int .u8 k')) := by
  have hlt := h.lt
  exact ⟨heap_far h.v (by simp), heap_far h.z (by simp), heap_set h.t_, heap_far h.r (by show R ≠ _; simp only; omega), only_new h.o (by simp) _ _, hlt⟩
/-- the world behind the last store: the result's four cells -/
theorem TS.out {w : World} {R : Nat} {b : ByteArray} {l c l0 c0 k : Int} {t : ByteArray} {wv : World} (h : TS w R b l c l0 c0 k t wv) (u0 u1 u2 u3 : Value) :
    Only R w ((((wv.setCell ⟨w.heap.size + 1, 0, none⟩ u0).setCell ⟨w.heap.size + 1, 1, none⟩ u1).setCell ⟨w.heap.size + 1, 2, none⟩ u2).setCell ⟨w.heap.size + 1, 3, none⟩ u3) ∧ RdR ((((wv.setCell ⟨w.heap.size + 1, 0, none⟩ u0).setCell ⟨w.heap.size + 1, 1, none⟩ u1).setCell ⟨w.heap.size + 1, 2, none⟩ u2).setCell ⟨w.heap.size + 1, 3, none⟩ u3) R b l c := by
  have hlt := h.lt
  refine ⟨only_new (only_new (only_new (only_new h.o (by simp) _ _) (by simp) _ _) (by simp) _ _) (by simp) _ _, ?_⟩
  exact heap_far (heap_far (heap_far (heap_far h.r (by show R ≠ _; simp only; omega)) (by show R ≠ _; simp only; omega)) (by show R ≠ _; simp only; omega)) (by show R ≠ _; simp only; omega)

/-- what token leaves, by the plain step -/
def TokPost (R : Nat) (b : ByteArray) (l c : Int) (w : World) (e : Ending) (w' : World) : Prop :=
  Only R w w' ∧ (((step (T b)).err = true ∧ e = .returned (.tuple #[.agg #[.int .u8 1, .string { data := #[] }, .int .i64 l, .int .i64 c], .bool false, .int .i64 71])) ∨
    ((step (T b)).err = false ∧ ∃ tb b', T tb = (step (T b)).t ∧ T b' = (T b).drop (step (T b)).n ∧ e = .returned (.tuple #[.agg #[.int .u8 (step (T b)).k, .string tb, .int .i64 l, .int .i64 c], .bool (step (T b)).is, .int .i64 0]) ∧
      RdR w' R b' (adv ((T b).take (step (T b)).n) l c).1 (adv ((T b).take (step (T b)).n) l c).2))

set_option maxHeartbeats 1000000 in
theorem token_blank (R : Nat) (b : ByteArray) (l c : Int) (w : World) (hb0 : 0 < b.size) (hbs : b.size ≤ 65536) (hl : 1 ≤ l) (hl2 : l + b.size ≤ 1000000) (hc : 1 ≤ c) (hc2 : c + b.size ≤ 1000000) (hr : RdR w R b l c)
    (hx : (b[0].toNat : Int) = 32 ∨ (b[0].toNat : Int) = 10) (hst : step (T b) = ⟨false, false, 1, [], 1⟩) :
    Calls Try.prog 29 #[.pointer (some ⟨R, 0, none⟩)] w (TokPost R b l c w) := by
  have q0 := fun o => cell_heap (j := 0) (heap_old (p := o) hr) rfl
  have q1 := fun o o2 => cell_heap (j := 1) (heap_old (p := o2) (heap_old (p := o) hr)) rfl
  have q2 := fun o o2 => cell_heap (j := 2) (heap_old (p := o2) (heap_old (p := o) hr)) rfl
  have q3 := fun o o2 o3 => cell_heap (j := 0) (heap_old (p := o3) (heap_old (p := o2) (heap_old (p := o) hr))) rfl
  have HT0 := hide (ts_start w R b l c hr)
  have H0 := hide (fun W => Try.strings_IndexByte ⟨#[123, 125, 59, 91, 93]⟩ b[0].toNat W)
  have HST := hide hst
  clear hst
  rcases hx with hx | hx
  · have hx1 := beq_it hx
    clear hx
    clear hr
    go_enter Try.func29, Try.ntmps29
    go_wp2_with fail
    refine (H0.out _).mono ?_; rintro e w1 ⟨rfl, hw1⟩
    have HT1 := hide (show TS w R b l c l c 1 { data := #[] } w1 by rw [hw1]; exact HT0.out)
    clear hw1 q0 q1 q2 q3 HT0 H0
    have v0 := cell_heap (j := 0) HT1.out.v rfl
    have t0 := cell_heap (j := 0) HT1.out.t_ rfl
    have t1 := cell_heap (j := 1) HT1.out.t_ rfl
    have t2 := cell_heap (j := 2) HT1.out.t_ rfl
    have t3 := cell_heap (j := 3) HT1.out.t_ rfl
    have z0 := cell_heap (j := 0) HT1.out.z rfl
    have z1 := cell_heap (j := 1) HT1.out.z rfl
    have z2 := cell_heap (j := 2) HT1.out.z rfl
    have z3 := cell_heap (j := 3) HT1.out.z rfl
    have fz0 := frozen_heap (j := 0) HT1.out.z
    have fz1 := frozen_heap (j := 1) HT1.out.z
    have fz2 := frozen_heap (j := 2) HT1.out.z
    have fz3 := frozen_heap (j := 3) HT1.out.z
    have r0 := cell_heap (j := 0) HT1.out.r rfl
    go_wp2_with fail
    refine (take_int R b 1 1 l c w1 (by omega) (by omega) hl (by omega) hc (by omega) HT1.out.r).mono ?_; rintro e w2 ⟨rfl, ho, hr2⟩
    have HT2 := hide (HT1.out.took ho hr2)
    clear ho hr2 HT1
    clear v0 t0 t1 t2 t3 z0 z1 z2 z3 fz0 fz1 fz2 fz3 r0
    have v0 := cell_heap (j := 0) HT2.out.v rfl
    have t0 := cell_heap (j := 0) HT2.out.t_ rfl
    have t1 := cell_heap (j := 1) HT2.out.t_ rfl
    have t2 := cell_heap (j := 2) HT2.out.t_ rfl
    have t3 := cell_heap (j := 3) HT2.out.t_ rfl
    have z0 := cell_heap (j := 0) HT2.out.z rfl
    have z1 := cell_heap (j := 1) HT2.out.z rfl
    have z2 := cell_heap (j := 2) HT2.out.z rfl
    have z3 := cell_heap (j := 3) HT2.out.z rfl
    have fz0 := frozen_heap (j := 0) HT2.out.z
    have fz1 := frozen_heap (j := 1) HT2.out.z
    have fz2 := frozen_heap (j := 2) HT2.out.z
    have fz3 := frozen_heap (j := 3) HT2.out.z
    have r0 := cell_heap (j := 0) HT2.out.r rfl
    go_wp2_with fail
    refine bodyPost_ret (v := .tuple #[.agg #[.int .u8 1, .string { data := #[] }, .int .i64 l, .int .i64 c], .bool false, .int .i64 0]) (by simp [results, Try.results29, go_sem, z0, z1, z2, z3]) rfl ?_
    refine ⟨(HT2.out.out _ _ _ _).1, .inr ?_⟩
    rw [HST.out]
    exact ⟨rfl, _, _, rfl, T_tail b 1, rfl, (HT2.out.out _ _ _ _).2⟩
  · have hx1 := beq_it hx
    have hx2 : ((b[0].toNat : Int) == 32) = false := beq_if (by omega)
    clear hx
    clear hr
    go_enter Try.func29, Try.ntmps29
    go_wp2_with fail
    refine (H0.out _).mono ?_; rintro e w1 ⟨rfl, hw1⟩
    have HT1 := hide (show TS w R b l c l c 1 { data := #[] } w1 by rw [hw1]; exact HT0.out)
    clear hw1 q0 q1 q2 q3 HT0 H0
    have v0 := cell_heap (j := 0) HT1.out.v rfl
    have t0 := cell_heap (j := 0) HT1.out.t_ rfl
    have t1 := cell_heap (j := 1) HT1.out.t_ rfl
    have t2 := cell_heap (j := 2) HT1.out.t_ rfl
    have t3 := cell_heap (j := 3) HT1.out.t_ rfl
    have z0 := cell_heap (j := 0) HT1.out.z rfl
    have z1 := cell_heap (j := 1) HT1.out.z rfl
    have z2 := cell_heap (j := 2) HT1.out.z rfl
    have z3 := cell_heap (j := 3) HT1.out.z rfl
    have fz0 := frozen_heap (j := 0) HT1.out.z
    have fz1 := frozen_heap (j := 1) HT1.out.z
    have fz2 := frozen_heap (j := 2) HT1.out.z
    have fz3 := frozen_heap (j := 3) HT1.out.z
    have r0 := cell_heap (j := 0) HT1.out.r rfl
    go_wp2_with fail
    refine (take_int R b 1 1 l c w1 (by omega) (by omega) hl (by omega) hc (by omega) HT1.out.r).mono ?_; rintro e w2 ⟨rfl, ho, hr2⟩
    have HT2 := hide (HT1.out.took ho hr2)
    clear ho hr2 HT1
    clear v0 t0 t1 t2 t3 z0 z1 z2 z3 fz0 fz1 fz2 fz3 r0
    have v0 := cell_heap (j := 0) HT2.out.v rfl
    have t0 := cell_heap (j := 0) HT2.out.t_ rfl
    have t1 := cell_heap (j := 1) HT2.out.t_ rfl
    have t2 := cell_heap (j := 2) HT2.out.t_ rfl
    have t3 := cell_heap (j := 3) HT2.out.t_ rfl
    have z0 := cell_heap (j := 0) HT2.out.z rfl
    have z1 := cell_heap (j := 1) HT2.out.z rfl
    have z2 := cell_heap (j := 2) HT2.out.z rfl
    have z3 := cell_heap (j := 3) HT2.out.z rfl
    have fz0 := frozen_heap (j := 0) HT2.out.z
    have fz1 := frozen_heap (j := 1) HT2.out.z
    have fz2 := frozen_heap (j := 2) HT2.out.z
    have fz3 := frozen_heap (j := 3) HT2.out.z
    have r0 := cell_heap (j := 0) HT2.out.r rfl
    go_wp2_with fail
    refine bodyPost_ret (v := .tuple #[.agg #[.int .u8 1, .string { data := #[] }, .int .i64 l, .int .i64 c], .bool false, .int .i64 0]) (by simp [results, Try.results29, go_sem, z0, z1, z2, z3]) rfl ?_
    refine ⟨(HT2.out.out _ _ _ _).1, .inr ?_⟩
    rw [HST.out]
    exact ⟨rfl, _, _, rfl, T_tail b 1, rfl, (HT2.out.out _ _ _ _).2⟩

theorem index_bound (sub : List UInt8) : ∀ s : List UInt8, 0 ≤ Lib.index s sub → (Lib.index s sub).toNat + sub.length ≤ s.length := by
  intro s
  induction s with
  | nil =>
    intro h
    unfold Lib.index at h ⊢
    split at h
    · rename_i he
      rw [if_pos he]
      simp only [List.isEmpty_iff] at he
      subst he; simp
    · omega
  | cons x xs ih =>
    intro h
    unfold Lib.index at h ⊢
    split at h
    · rename_i hp
      rw [if_pos hp]
      have := (List.isPrefixOf_iff_prefix.1 hp).length_le
      simpa using this
    · rename_i hp
      rw [if_neg hp]
      have hge := Lib.index_ge xs sub
      split at h
      · omega
      · rename_i h1
        rw [if_neg h1]
        have h2 : ¬ Lib.index xs sub = -1 := by simpa using h1
        have := ih (by omega)
        simp only [List.length_cons]
        omega
theorem indexAny_bound (cs : List UInt8) : ∀ s : List UInt8, 0 ≤ Lib.indexAny s cs → (Lib.indexAny s cs).toNat < s.length := by
  intro s
  induction s with
  | nil => intro h; simp [Lib.indexAny] at h
  | cons x xs ih =>
    intro h
    unfold Lib.indexAny at h ⊢
    split at h
    · rename_i hp
      rw [if_pos hp]; simp
    · rename_i hp
      rw [if_neg hp]
      have hge := Lib.indexAny_ge cs xs
      split at h
      · omega
      · rename_i h1
        rw [if_neg h1]
        have h2 : ¬ Lib.indexAny xs cs = -1 := by simpa using h1
        have := ih (by omega)
        simp only [List.length_cons]
        omega
theorem only_cell {R : Nat} {w w' : World} (h : Only R w w') {g j : Nat} {u : Value} (hc : w.cell? ⟨g, j, none⟩ = some u) (hne : g ≠ R) : w'.cell? ⟨g, j, none⟩ = some u := by
  rw [World.cell?_of_block (w := w) (h.block g (lt_of_cell hc) (fun e => hne (by injection e)))]
  exact hc
theorem only_of_below {R : Nat} {w w' : World} (h : Below w.heap.size w w') : Only R w w' := ⟨h.os, h.tape, h.output, h.size, fun i hi _ => h.block i hi⟩

set_option maxRecDepth 100000 in
set_option maxHeartbeats 1000000 in
theorem token_hash (R : Nat) (b : ByteArray) (l c : Int) (w : World) (hb0 : 0 < b.size) (hbs : b.size ≤ 65536) (hl : 1 ≤ l) (hl2 : l + b.size ≤ 1000000) (hc : 1 ≤ c) (hc2 : c + b.size ≤ 1000000) (hr : RdR w R b l c)
    (hx : (b[0].toNat : Int) = 35) (hst : step (T b) = ⟨false, false, 1, [], firstN is10 (T b)⟩) :
    Calls Try.prog 29 #[.pointer (some ⟨R, 0, none⟩)] w (TokPost R b l c w) := by
  have q0 := fun o => cell_heap (j := 0) (heap_old (p := o) hr) rfl
  have q1 := fun o o2 => cell_heap (j := 1) (heap_old (p := o2) (heap_old (p := o) hr)) rfl
  have q2 := fun o o2 => cell_heap (j := 2) (heap_old (p := o2) (heap_old (p := o) hr)) rfl
  have q3 := fun o o2 o3 => cell_heap (j := 0) (heap_old (p := o3) (heap_old (p := o2) (heap_old (p := o) hr))) rfl
  have HT0 := hide (ts_start w R b l c hr)
  have H0 := hide (fun W => Try.strings_IndexByte ⟨#[123, 125, 59, 91, 93]⟩ b[0].toNat W)
  have HST := hide hst
  clear hst
  have hx1 : ((b[0].toNat : Int) == 32) = false := beq_if (by omega)
  have hx2 : ((b[0].toNat : Int) == 10) = false := beq_if (by omega)
  have hx3 := beq_it hx
  clear hx
  clear hr
  go_enter Try.func29, Try.ntmps29
  go_wp2_with fail
  refine (H0.out _).mono ?_; rintro e w1 ⟨rfl, hw1⟩
  have HT1 := hide (show TS w R b l c l c 1 { data := #[] } w1 by rw [hw1]; exact HT0.out)
  clear hw1 q0 q1 q2 q3 HT0 H0
  have v0 := cell_heap (j := 0) HT1.out.v rfl
  have t0 := cell_heap (j := 0) HT1.out.t_ rfl
  have t1 := cell_heap (j := 1) HT1.out.t_ rfl
  have t2 := cell_heap (j := 2) HT1.out.t_ rfl
  have t3 := cell_heap (j := 3) HT1.out.t_ rfl
  have z0 := cell_heap (j := 0) HT1.out.z rfl
  have z1 := cell_heap (j := 1) HT1.out.z rfl
  have z2 := cell_heap (j := 2) HT1.out.z rfl
  have z3 := cell_heap (j := 3) HT1.out.z rfl
  have fz0 := frozen_heap (j := 0) HT1.out.z
  have fz1 := frozen_heap (j := 1) HT1.out.z
  have fz2 := frozen_heap (j := 2) HT1.out.z
  have fz3 := frozen_heap (j := 3) HT1.out.z
  have r0 := cell_heap (j := 0) HT1.out.r rfl
  have HN := hide (firstN_le is10 (T b))
  have HU := hide (until1_any R w.heap.size b w1.drew (by omega) v0 r0)
  generalize hgn : firstN is10 (T b) = n at *
  have HGN := hide hgn
  clear hgn
  have hn : n ≤ b.size := by have := HN.out; rw [T_len] at this; exact this
  go_wp2_with fail
  refine wp_region_still_tail 4 (by kernel_rfl) (by kernel_rfl) ?_
  simp only [List.take_succ_cons, List.take_zero, List.drop_succ_cons, List.drop_zero]
  repeat still_step
  still_call (calls_flip HU.out)
  refine wpStill_nil ?_
  go_wp2_with fail
  refine (take_int R b _ n l c _ rfl hn hl (by omega) hc (by omega) HT1.out.drew.r).mono ?_; rintro e w2 ⟨rfl, ho, hr2⟩
  have HT2 := hide (HT1.out.drew.took ho hr2)
  clear ho hr2 HT1
  clear v0 t0 t1 t2 t3 z0 z1 z2 z3 fz0 fz1 fz2 fz3 r0
  have v0 := cell_heap (j := 0) HT2.out.v rfl
  have t0 := cell_heap (j := 0) HT2.out.t_ rfl
  have t1 := cell_heap (j := 1) HT2.out.t_ rfl
  have t2 := cell_heap (j := 2) HT2.out.t_ rfl
  have t3 := cell_heap (j := 3) HT2.out.t_ rfl
  have z0 := cell_heap (j := 0) HT2.out.z rfl
  have z1 := cell_heap (j := 1) HT2.out.z rfl
  have z2 := cell_heap (j := 2) HT2.out.z rfl
  have z3 := cell_heap (j := 3) HT2.out.z rfl
  have fz0 := frozen_heap (j := 0) HT2.out.z
  have fz1 := frozen_heap (j := 1) HT2.out.z
  have fz2 := frozen_heap (j := 2) HT2.out.z
  have fz3 := frozen_heap (j := 3) HT2.out.z
  have r0 := cell_heap (j := 0) HT2.out.r rfl
  go_wp2_with fail
  refine bodyPost_ret (v := .tuple #[.agg #[.int .u8 1, .string { data := #[] }, .int .i64 l, .int .i64 c], .bool false, .int .i64 0]) (by simp [results, Try.results29, go_sem, z0, z1, z2, z3]) rfl ?_
  refine ⟨(HT2.out.out _ _ _ _).1, .inr ?_⟩
  rw [HST.out]
  exact ⟨rfl, _, _, rfl, T_tail b n, rfl, (HT2.out.out _ _ _ _).2⟩
end Go.Proofs.Ytihmmmodimionaa.Lx
