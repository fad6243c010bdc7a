import Derived.Test.YtihmmmodimionaaDoorLS
namespace Go.Proofs.YtihmmmodimionaaDoor.Lx
open Go.RowKit

set_option maxRecDepth 100000 in
set_option maxHeartbeats 1000000 in
theorem rlines_no (s : ByteArray) (w : World) (hs : ¬ (chk (T s)).2.2 = 0) (hlen : s.size ≤ maxLen) :
    Calls Tryd.prog 9 #[.string s] w (RLinOut (linRes (T s)).1 (linRes (T s)).2 w) := by
  have HC := hide (fun o => ref_check s (w.alloc o) hlen)
  have hne := beq_if hs
  rw [linRes_no hs]
  clear hs
  generalize hp : (chk (T s)).1 = p at *
  generalize hq : (chk (T s)).2.1 = q at *
  generalize hr : (chk (T s)).2.2 = r at *
  have HP := hide (show chk (T s) = (p, q, r) by rw [← hp, ← hq, ← hr])
  clear hp hq hr
  go_enter Tryd.func9, Tryd.ntmps9
  go_wp2_with fail
  refine (HC.out _).mono ?_; rintro e w1 ⟨rfl, hb1⟩
  have hp1 : PosR w1 w.heap.size 0 0 := heapB hb1 (heap_new w _)
  have hbw : Below w.heap.size w w1 := below_wide (bel_one _ _) hb1
  have q0 := fun o => cell_heap (j := 0) (heap_old (p := o) hp1) rfl
  have q1 := fun o => cell_heap (j := 1) (heap_old (p := o) hp1) rfl
  have f0 := fun o => frozen_heap (j := 0) (heap_old (p := o) hp1)
  have f1 := fun o => frozen_heap (j := 1) (heap_old (p := o) hp1)
  have HB := hide hbw
  clear hp1 hbw hb1
  go_wp2_with fail
  go_region
  go_wp2_with fail
  refine bodyPost_ret (v := .tuple #[.slice none 0 0, .agg #[.int .i64 p, .int .i64 q], .int .i64 r]) (by simp [results, Tryd.results9, go_sem, q0, q1]) rfl ?_
  rw [HP.out]
  exact ⟨_, [], rfl, rfl, World.ownsRow_nil _ _ _ _, fun x hx => (by cases hx), (((HB.out.alloc HB.out.size _).setCell (p := ⟨w.heap.size, 0, none⟩) (Nat.le_refl _) _).setCell (p := ⟨w.heap.size, 1, none⟩) (Nat.le_refl _) _).drew, by simp, fun x hx => (by cases hx)⟩
theorem rlines_any (s : ByteArray) (w : World) (hlen : s.size ≤ maxLen) :
    Calls Tryd.prog 9 #[.string s] w (RLinOut (linRes (T s)).1 (linRes (T s)).2 w) := by
  by_cases hs : (chk (T s)).2.2 = 0
  · exact rlines_ok s w hs
  · exact rlines_no s w hs hlen

theorem same_pos (w : World) (a b : Int) : Calls Tryd.prog 11 #[.agg #[.int .i64 a, .int .i64 b], .agg #[.int .i64 a, .int .i64 b]] w fun e w' => e = .returned (.bool true) ∧ Below w.heap.size w w' := by
  have ha : (a == a) = true := by simp
  have hb : (b == b) = true := by simp
  go_enter Tryd.func11, Tryd.ntmps11
  go_wp2
  go_returns
  exact ⟨rfl, by go_grown⟩
theorem T_inj {a b : ByteArray} (h : T a = T b) : a = b := by
  unfold T at h
  cases a; cases b
  simp only [Array.toList_inj] at h
  rw [h]
theorem wd_inj : ∀ {a b : List BWd}, a.map BWd.wd = b.map BWd.wd → a = b := by
  intro a
  induction a with
  | nil => intro b h; cases b with
    | nil => rfl
    | cons => simp at h
  | cons x xs ih =>
    intro b h
    cases b with
    | nil => simp at h
    | cons y ys =>
      simp only [List.map_cons, List.cons.injEq] at h
      obtain ⟨h1, h2⟩ := h
      rw [ih h2]
      obtain ⟨t, c⟩ := x
      obtain ⟨t', c'⟩ := y
      simp only [BWd.wd, Wd.mk.injEq] at h1
      obtain ⟨h3, rfl⟩ := h1
      rw [T_inj h3]
end Go.Proofs.YtihmmmodimionaaDoor.Lx
