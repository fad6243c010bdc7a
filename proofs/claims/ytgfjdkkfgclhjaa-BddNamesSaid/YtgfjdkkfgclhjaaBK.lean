/- New. -/
import Derived.Test.YtgfjdkkfgclhjaaBJ
namespace Go.Proofs.Ytgfjdkkfgclhjaa.Bd
open Go.RowKit Go.Proofs.Ytgfjdkkfgclhjaa Go.Proofs.Ytgfjdkkfgclhjaa.Lx Go.Maps

def ends : List Nd := [(256, 0, 0), (256, 0, 0)]
def St.new (vs ms : Nat) : St := ⟨vs, ms, ends, fun x => decide (x = 1) || decide (x = 0), 2, fun _ => false, 0, 0⟩
theorem ends_get {i : Nat} {x : Nd} (h : ends[i]? = some x) : i < 2 := by simpa [ends] using lt_of_some h
theorem ends_wf : WF ends := ⟨rfl, rfl, fun i j x hi hj gi gj => by have := ends_get gi; omega, fun i hi => by
  have : i < 2 := by simpa [ends] using hi
  rcases (by omega : i = 0 ∨ i = 1) with rfl | rfl
  · exact ⟨256, _, .zero⟩
  · exact ⟨256, _, .one⟩⟩
theorem new_inv (vs ms : Nat) : Inv (St.new vs ms) (fun _ => none) (fun _ => none) := by
  refine ⟨⟨?_, ?_⟩, ?_, ends_wf, by simp [St.new, ends], fun x hx => ?_⟩
  · intro x c h; cases h
  · intro i x h2 h
    have := ends_get (show ends[i]? = some x from h)
    omega
  · intro a b c i h; cases h
  · simp only [St.new, Bool.or_eq_true, decide_eq_true_eq] at hx
    rcases hx with rfl | rfl
    · exact ⟨1, rfl, by simp [St.new, ends]⟩
    · exact ⟨0, rfl, by simp [St.new, ends]⟩
/-- an arena of one's own -/
def Own (w w' : World) (k : Blk) (s : St) : Prop := Ar w' k s ∧ Below w.heap.size w w' ∧ ∀ i, fp k i → w.heap.size ≤ i

theorem new_start {w w1 w2 : World} {vs ms : Nat} (ht1 : World.mapTurned ((((w.alloc (.cells #[.int .i32 256, .int .i32 0, .int .i32 0, .int .i32 256, .int .i32 0, .int .i32 0] 58)).alloc (.map #[] 0)).alloc (.map #[] 0)).alloc (.map #[] 0)) w1 (w.heap.size + 3)) (ht2 : w1.mapTurned w2 (w.heap.size + 3))
    (hm : MSet Try.prog w2 3 4 (w.heap.size + 3) 2 2 encI fun x => decide (x = 1) || decide (x = 0)) :
    Own w ((w2.alloc (.map #[] 0)).alloc (.cells #[.int .i64 vs, .int .i64 ms, .slice (some ⟨w.heap.size, 0, none⟩) 2 2, .map (some (w.heap.size + 1)), .map (some (w.heap.size + 1 + 1)), .map (some (w.heap.size + 3)), .map (some w2.heap.size)] 65))
      ⟨w2.heap.size + 1, w.heap.size, 2, w.heap.size + 1, w.heap.size + 1 + 1, w.heap.size + 3, w2.heap.size⟩ (St.new vs ms) := by
  have hg := (ht1.trans ht2).grown
  have hs := hg.size
  simp only [World.size_alloc] at hs
  have hb : Below w.heap.size w w2 := (((((Below.refl _ w).alloc (Nat.le_refl _) _).alloc (by simp) _).alloc (by simp; omega) _).alloc (by simp; omega) _).grown hg (by simp; omega) (fun b e => by injection e with e; omega)
  have c0 : w2.heap[w.heap.size]? = some (.cells #[.int .i32 256, .int .i32 0, .int .i32 0, .int .i32 256, .int .i32 0, .int .i32 0] 58 (0, 0)) := heap_grown (heap_old (heap_old (heap_old (heap_new _ _)))) hg (opt_ne (by omega))
  have s1 : (w.alloc (.cells #[.int .i32 256, .int .i32 0, .int .i32 0, .int .i32 256, .int .i32 0, .int .i32 0] 58)).heap.size = w.heap.size + 1 := by simp
  have s2 : ((w.alloc (.cells #[.int .i32 256, .int .i32 0, .int .i32 0, .int .i32 256, .int .i32 0, .int .i32 0] 58)).alloc (.map #[] 0)).heap.size = w.heap.size + 1 + 1 := by simp
  have m1 := MInt.made (P := Try.prog) (w.alloc (.cells #[.int .i32 256, .int .i32 0, .int .i32 0, .int .i32 256, .int .i32 0, .int .i32 0] 58)) 58 21 .i32 encN
  have m2 := MInt.made (P := Try.prog) ((w.alloc (.cells #[.int .i32 256, .int .i32 0, .int .i32 0, .int .i32 256, .int .i32 0, .int .i32 0] 58)).alloc (.map #[] 0)) 93 21 .i32 encN
  have m4 := MSet.made (P := Try.prog) w2 21 4 enc3
  rw [s1] at m1
  rw [s2] at m2
  have k1 := ((m1.kept (World.grownBy_alloc _ (.map #[] 0) none) (by simp)).kept (World.grownBy_alloc _ (.map #[] 0) none) (by simp)).kept hg (opt_ne (by omega))
  have k2 := (m2.kept (World.grownBy_alloc _ (.map #[] 0) none) (by simp)).kept hg (opt_ne (by omega))
  refine ⟨⟨_, _, ⟨?_, ?_, ?_, ?_, ?_, ?_, by simp, by simp, by simp only; omega, by simp, by simp only; omega, by simp only; omega⟩, new_inv vs ms⟩, ?_, ?_⟩
  · have := heap_new (w2.alloc (.map #[] 0)) (.cells #[.int .i64 vs, .int .i64 ms, .slice (some ⟨w.heap.size, 0, none⟩) 2 2, .map (some (w.heap.size + 1)), .map (some (w.heap.size + 1 + 1)), .map (some (w.heap.size + 3)), .map (some w2.heap.size)] 65)
    rw [show (w2.alloc (.map #[] 0)).heap.size = w2.heap.size + 1 by simp] at this
    exact this
  · exact ⟨rfl, .inr ⟨w.heap.size, 2, _, rfl, Nat.zero_le _, heap_old (heap_old c0), Nat.le_refl _, by unfold maxLen; omega, rfl, rfl⟩⟩
  · exact (k1.kept (World.grownBy_alloc _ (.map #[] 0) none) (by simp)).kept (World.grownBy_alloc _ _ none) (by simp)
  · exact (k2.kept (World.grownBy_alloc _ (.map #[] 0) none) (by simp)).kept (World.grownBy_alloc _ _ none) (by simp)
  · exact ⟨2, (hm.kept (World.grownBy_alloc _ (.map #[] 0) none) (by simp)).kept (World.grownBy_alloc _ _ none) (by simp)⟩
  · exact m4.kept (World.grownBy_alloc _ _ none) (by simp)
  · exact (hb.alloc (by omega) _).alloc (by simp; omega) _
  · rintro i (h | h | h | h | h | h) <;> simp only at h <;> omega

set_option maxHeartbeats 2000000 in
set_option maxRecDepth 100000 in
theorem new_any (vs ms : Nat) (w : World) (h1 : vs ≤ 256) (h2 : ms ≤ 4194304) : Calls Try.prog 7 #[.int .i64 vs, .int .i64 ms] w fun e w' => ∃ k, e = .returned (.tuple #[.pointer (some ⟨k.p, 0, none⟩), .int .i64 0]) ∧ Own w w' k (St.new vs ms) := by
  have d1 : decide ((vs : Int) < 0) = false := by simp
  have d2 : decide ((256 : Int) < vs) = false := by simp; omega
  have d3 : decide ((ms : Int) < 0) = false := by simp
  have d4 : decide ((4194304 : Int) < ms) = false := by simp; omega
  have hmm := @run_makeMap Try.prog
  have HMS := hide (MSet.made (P := Try.prog) ((((w.alloc (.cells #[.int .i32 256, .int .i32 0, .int .i32 0, .int .i32 256, .int .i32 0, .int .i32 0] 58)).alloc (.map #[] 0)).alloc (.map #[] 0))) 3 4 encI)
  have hsz : ((((w.alloc (.cells #[.int .i32 256, .int .i32 0, .int .i32 0, .int .i32 256, .int .i32 0, .int .i32 0] 58)).alloc (.map #[] 0)).alloc (.map #[] 0))).heap.size = w.heap.size + 3 := by simp
  rw [hsz] at HMS
  go_enter Try.func7, Try.ntmps7
  go_wp2_with (refine wpList_ins rfl (.tmp 29) _ _ rfl HMS.out keyedI Try.underlying62 Try.underlying4 (by unfold maxLen; omega) encI_inj rfl (0 : Int) _ rfl (keyI 0 (by omega) (by omega)) rfl ?_)
  intro w1 hm1 ht1
  have HM1 := hide hm1
  have HT1 := hide ht1
  clear hm1 ht1
  go_wp2_with (refine wpList_ins rfl (.tmp 29) _ _ rfl HM1.out keyedI Try.underlying62 Try.underlying4 (by unfold maxLen; omega) encI_inj rfl (1 : Int) _ rfl (keyI 1 (by omega) (by omega)) rfl ?_)
  intro w2 hm2 ht2
  have HM2 := hide hm2
  have HT2 := hide ht2
  clear hm2 ht2
  go_wp2_with fail
  have HO := hide (new_start (vs := vs) (ms := ms) HT1.out HT2.out HM2.out)
  go_ret2
  exact ⟨_, rfl, HO.out⟩
theorem new_bad (vs ms : Int) (w : World) (h : vs < 0 ∨ 256 < vs ∨ 4194304 < ms) (h0 : 0 ≤ ms) : Calls Try.prog 7 #[.int .i64 vs, .int .i64 ms] w fun e w' => e = .returned (.tuple #[.pointer none, .int .i64 1]) ∧ w' = w := by
  cases d1 : decide (vs < 0)
  · cases d2 : decide ((256 : Int) < vs)
    · have d3 : decide (ms < 0) = false := by simp; omega
      have d4 : decide ((4194304 : Int) < ms) = true := by
        have := of_decide_eq_false d1
        have := of_decide_eq_false d2
        simp; omega
      go_enter Try.func7, Try.ntmps7
      go_wp2_with fail
      go_ret2
      exact ⟨rfl, rfl⟩
    · go_enter Try.func7, Try.ntmps7
      go_wp2_with fail
      go_ret2
      exact ⟨rfl, rfl⟩
  · go_enter Try.func7, Try.ntmps7
    go_wp2_with fail
    go_ret2
    exact ⟨rfl, rfl⟩
end Go.Proofs.Ytgfjdkkfgclhjaa.Bd
