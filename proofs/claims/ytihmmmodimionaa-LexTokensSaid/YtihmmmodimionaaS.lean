import Derived.Test.YtihmmmodimionaaR
namespace Go.Proofs.Ytihmmmodimionaa.Lx
open Go.RowKit

set_option maxRecDepth 100000 in
set_option maxHeartbeats 1000000 in
theorem ref_no (s : ByteArray) (w : World) (hs : ¬ (chk (T s)).2.2 = 0) (hlen : s.size ≤ maxLen) :
    Calls Try.prog 9 #[.string s] w (RefOut (tokRes (T s)).1 (tokRes (T s)).2 w) := by
  have HC := hide (fun o => ref_check s (w.alloc o) hlen)
  have hne := beq_if hs
  rw [tokRes_no hs]
  clear hs
  generalize hp : (chk (T s)).1 = p at *
  generalize hq : (chk (T s)).2.1 = q at *
  generalize hr : (chk (T s)).2.2 = r at *
  have HP := hide (show chk (T s) = (p, q, r) by rw [← hp, ← hq, ← hr])
  clear hp hq hr
  go_enter Try.func9, Try.ntmps9
  go_wp2_with fail
  refine (HC.out _).mono ?_; rintro e w1 ⟨rfl, hb1⟩
  have hp1 : PosR w1 w.heap.size 0 0 := heapB hb1 (heap_new w _)
  have hbw : Below w.heap.size w w1 := below_wide (bel_one _ _) hb1
  have q0 := fun o => cell_heap (j := 0) (heap_old (p := o) hp1) rfl
  have q1 := fun o => cell_heap (j := 1) (heap_old (p := o) hp1) rfl
  have f0 := fun o => frozen_heap (j := 0) (heap_old (p := o) hp1)
  have f1 := fun o => frozen_heap (j := 1) (heap_old (p := o) hp1)
  have HB := hide hbw
  clear hp1 hbw hb1
  go_wp2_with fail
  go_region
  go_wp2_with fail
  refine bodyPost_ret (v := .tuple #[.slice none 0 0, .agg #[.int .i64 p, .int .i64 q], .int .i64 r]) (by simp [results, Try.results9, go_sem, q0, q1]) rfl ?_
  rw [HP.out]
  exact ⟨_, [], rfl, rfl, World.ownsRow_nil _ _ _ _, (((HB.out.alloc HB.out.size _).setCell (p := ⟨w.heap.size, 0, none⟩) (Nat.le_refl _) _).setCell (p := ⟨w.heap.size, 1, none⟩) (Nat.le_refl _) _).drew, by simp⟩

theorem ref_any (s : ByteArray) (w : World) (hlen : s.size ≤ maxLen) :
    Calls Try.prog 9 #[.string s] w (RefOut (tokRes (T s)).1 (tokRes (T s)).2 w) := by
  by_cases hs : (chk (T s)).2.2 = 0
  · exact ref_ok s w hs
  · exact ref_no s w hs hlen

/-- a row of tokens, as it reads -/
def TokRow (w : World) (v : Value) (bs : List BTok) : Prop :=
  ∃ A cap, v = .slice A bs.length cap ∧ (0 < bs.length → ∃ g, A = some ⟨g, 0, none⟩ ∧ ∀ j, j < bs.length * 4 → w.cell? ⟨g, j, none⟩ = (bs.flatMap BTok.cells)[j]?)
theorem tokRow_own {w : World} {base : Nat} {t : TypeId} {v : Value} {bs : List BTok} (h : w.ownsRow base t 4 v bs.length (bs.flatMap BTok.cells)) : TokRow w v bs := by
  rcases h.2 with ⟨rfl, h0⟩ | ⟨g, cap, cur, rfl, h1, h2, h3, h4, h5, h6⟩
  · exact ⟨none, 0, by rw [h0], fun h => by omega⟩
  · exact ⟨_, cap, rfl, fun _ => ⟨g, rfl, fun j hj => h.cellAt j hj⟩⟩
theorem T_inj {a b : ByteArray} (h : T a = T b) : a = b := by
  unfold T at h
  cases a; cases b
  simp only [Array.toList_inj] at h
  rw [h]
theorem tok_inj : ∀ {a b : List BTok}, a.map BTok.tok = b.map BTok.tok → a = b := by
  intro a
  induction a with
  | nil => intro b h; cases b with
    | nil => rfl
    | cons => simp at h
  | cons x xs ih =>
    intro b h
    cases b with
    | nil => simp at h
    | cons y ys =>
      simp only [List.map_cons, List.cons.injEq] at h
      obtain ⟨h1, h2⟩ := h
      rw [ih h2]
      obtain ⟨k, t, l, c⟩ := x
      obtain ⟨k', t', l', c'⟩ := y
      simp only [BTok.tok, Tok.mk.injEq] at h1
      obtain ⟨rfl, h3, rfl, rfl⟩ := h1
      rw [T_inj h3]
theorem flat_at (bs : List BTok) (i : Nat) (h : i < bs.length) : (bs.flatMap BTok.cells)[i * 4]? = some (.int .u8 bs[i].k) ∧ (bs.flatMap BTok.cells)[i * 4 + 1]? = some (.string bs[i].b) ∧ (bs.flatMap BTok.cells)[i * 4 + 2]? = some (.int .i64 bs[i].l) ∧ (bs.flatMap BTok.cells)[i * 4 + 3]? = some (.int .i64 bs[i].c) := by
  induction bs generalizing i with
  | nil => simp at h
  | cons x xs ih =>
    cases i with
    | zero => exact ⟨rfl, rfl, rfl, rfl⟩
    | succ i =>
      have := ih i (by simpa using h)
      have e : (i + 1) * 4 = i * 4 + 4 := by omega
      have e1 : (i + 1) * 4 + 1 = (i * 4 + 1) + 4 := by omega
      have e2 : (i + 1) * 4 + 2 = (i * 4 + 2) + 4 := by omega
      have e3 : (i + 1) * 4 + 3 = (i * 4 + 3) + 4 := by omega
      rw [e1, e2, e3, e]
      simp only [List.flatMap_cons, BTok.cells, List.cons_append, List.nil_append, List.getElem?_cons_succ, List.getElem_cons_succ]
      exact this

theorem same_pos (w : World) (a b : Int) : Calls Try.prog 11 #[.agg #[.int .i64 a, .int .i64 b], .agg #[.int .i64 a, .int .i64 b]] w fun e w' => e = .returned (.bool true) ∧ Below w.heap.size w w' := by
  have ha : (a == a) = true := by simp
  have hb : (b == b) = true := by simp
  go_enter Try.func11, Try.ntmps11
  go_wp2
  go_returns
  exact ⟨rfl, by go_grown⟩

set_option maxHeartbeats 1000000 in
theorem same_any (w : World) (va vb : Value) (bs : List BTok) (ha : TokRow w va bs) (hb : TokRow w vb bs) (hlen : bs.length ≤ 65536) :
    Calls Try.prog 10 #[va, vb] w fun e w' => e = .returned (.bool true) ∧ Below w.heap.size w w' := by
  obtain ⟨A, ca, rfl, hA⟩ := ha
  obtain ⟨B, cb, rfl, hB⟩ := hb
  go_enter Try.func10, Try.ntmps10
  go_wp2_with fail
  go_loopw [5] (fun j wr => ∃ i : Nat, i ≤ bs.length ∧ j = .int .i64 i ∧ Below w.heap.size w wr) (fun j _ => bs.length - (intOf j).toNat)
  case atStart => exact ⟨0, Nat.zero_le _, rfl, Below.refl _ _⟩
  case round =>
    obtain ⟨i, hi, rfl, hbl⟩ := hrel
    have HB := hide hbl
    clear hbl
    by_cases hlt : i < bs.length
    · obtain ⟨g, rfl, hg⟩ := hA (by omega)
      obtain ⟨g', rfl, hg'⟩ := hB (by omega)
      have h0 := hg (i * 4) (by omega)
      have h1 := hg (i * 4 + 1) (by omega)
      have h2 := hg (i * 4 + 2) (by omega)
      have h3 := hg (i * 4 + 3) (by omega)
      have k0 := hg' (i * 4) (by omega)
      have k1 := hg' (i * 4 + 1) (by omega)
      have k2 := hg' (i * 4 + 2) (by omega)
      have k3 := hg' (i * 4 + 3) (by omega)
      obtain ⟨f0, f1, f2, f3⟩ := flat_at bs i hlt
      rw [f0] at h0 k0
      rw [f1] at h1 k1
      rw [f2] at h2 k2
      rw [f3] at h3 k3
      have h0 := lat_cell (cellB HB.out h0)
      have h1 := lat_cell (cellB HB.out h1)
      have h2 := lat_cell (cellB HB.out h2)
      have h3 := lat_cell (cellB HB.out h3)
      have k0 := lat_cell (cellB HB.out k0)
      have k1 := lat_cell (cellB HB.out k1)
      have k2 := lat_cell (cellB HB.out k2)
      have k3 := lat_cell (cellB HB.out k3)
      clear hA hB hg hg' f0 f1 f2 f3
      go_wp2_with fail
      refine wp_region_lat (by kernel_rfl) (by kernel_rfl) ?_
      repeat (first | go_big_quiet_step ((exact calls_lat (same_pos _ _ _))) | quiet_step ((exact calls_lat (same_pos _ _ _))))
      refine wpQuiet_nil ?_
      intro _ hlat
      obtain ⟨wq, rfl⟩ := hlat
      go_wp2_with fail
      go_roundw
      case rel => exact ⟨i + 1, by omega, by go_num, HB.out.trans (lat_below _ _ |>.mono HB.out.size)⟩
      case measure => simp [intOf]; omega
    · go_wp2_with fail
      go_ret
      exact ⟨rfl, HB.out⟩
end Go.Proofs.Ytihmmmodimionaa.Lx
