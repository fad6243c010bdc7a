/- rises: a list that rises, and has all on which a function hangs. -/
import Derived.Test.YtgfjdkkfgclhjaaCD
import Derived.Test.YtgfjdkkfgclhjaaPD
namespace Go.Proofs.Ytgfjdkkfgclhjaa.Bd
open Go.RowKit Go.Proofs.Ytgfjdkkfgclhjaa Go.Proofs.Ytgfjdkkfgclhjaa.Lx Go.Maps

theorem big_div {V P : Nat} (h : V * P * 18446744073709551616 < 340282366920938463463374607431768211456) : V * P < 18446744073709551616 := by
  generalize V * P = X at *
  omega
theorem pow_split (k : Nat) : 2 ^ (k + 64) = 2 ^ k * 18446744073709551616 := by
  rw [Nat.pow_add]
theorem hi_zero {hi lo P : Nat} (hP : 0 < P) (h : val (hi, lo) * P < 18446744073709551616) : hi = 0 := by
  have h0 : val (hi, lo) < 18446744073709551616 := Nat.lt_of_le_of_lt (Nat.le_mul_of_pos_right _ hP) h
  unfold val at h0
  simp only at h0
  omega
theorem val_turn (lo P : Nat) : val (lo, 0) * P = val (0, lo) * P * 18446744073709551616 := by
  have a : val (lo, 0) = lo * 18446744073709551616 := Nat.add_zero _
  have b : val (0, lo) = lo := by
    show 0 * 18446744073709551616 + lo = lo
    rw [Nat.zero_mul, Nat.zero_add]
  rw [a, b]
  exact Nat.mul_right_comm _ _ _
theorem times_any (c : Cn) (n : Nat) (w : World) (hc : ok2 c) (hv : val c * 2 ^ n < 340282366920938463463374607431768211456) (hn : n < 128) :
    Calls Try.prog 33 #[cEl c, .int .i64 n] w fun e w' => e = .returned (cEl (ofN (val c * 2 ^ n))) ∧ Below w.heap.size w w' := by
  obtain ⟨hi, lo⟩ := c
  obtain ⟨h1, h2⟩ := hc
  rcases Nat.lt_or_ge n 64 with h | h
  · exact times_small hi lo n w h1 h2 h hv
  · obtain ⟨k, hk⟩ : ∃ k, n = k + 64 := ⟨n - 64, by omega⟩
    rw [hk, pow_split, ← Nat.mul_assoc] at hv
    have hv2 := big_div hv
    obtain rfl := hi_zero (Nat.two_pow_pos k) hv2
    have := times_big lo k w h2 (by omega) (by rw [val_turn]; exact hv)
    rw [val_turn] at this
    rw [hk, pow_split, ← Nat.mul_assoc, show ((k + 64 : Nat) : Int) = (k : Int) + 64 from by push_cast; rfl]
    exact this
theorem src_of_own {w : World} {base e n c : Nat} {A : Option Addr} {xs : List Value} (h : w.ownsRow base e 1 (.slice A n c) n xs) : Src w A n c 1 xs := by
  refine ⟨h.1, ?_⟩
  rcases h.2 with ⟨h1, h2⟩ | ⟨g, cap, cur, h1, _⟩
  · injection h1 with a b c
    exact .inl ⟨a, h2, c⟩
  · injection h1 with a b c
    subst a
    refine .inr ⟨_, rfl, fun j u hu => ?_⟩
    have hl := h.1
    have hj := lt_of_some hu
    have := h.cellAt j (by omega)
    rw [show (Addr.add ⟨g, 0, none⟩ j) = ⟨g, j, none⟩ by unfold Addr.add; split <;> simp_all]
    exact this.trans hu
/-- the place of a variable in a rising list -/
theorem rise_get {ov : List Nat} (h : Rise ov) {t : Nat} (ht : t ∈ ov) : ov[plc ov t]? = some t ∧ ∀ y ∈ ov.take (plc ov t), y < t := by
  have e := split_at h (Nat.zero_le t)
  rw [fromL_zero, fromL_at h ht] at e
  have el : (ov.filter fun x => decide (0 ≤ x ∧ x < t)).length = plc ov t := by
    have := plc_add ov (Nat.zero_le t)
    rw [plc_zero] at this
    omega
  constructor
  · conv => lhs; arg 1; rw [e]
    rw [List.getElem?_append_right (by omega), el]
    simp
  · intro y hy
    have e2 : ov.take (plc ov t) = ov.filter fun x => decide (0 ≤ x ∧ x < t) := by
      conv => lhs; arg 2; rw [e]
      rw [← el, List.take_left]
    rw [e2] at hy
    have := (List.mem_filter.1 hy).2
    simp at this
    exact this
theorem idx_plc {ov : List Nat} (h : Rise ov) {t : Nat} (ht : t ∈ ov) : idxOf (fun x => (t : Int) == x) (encL ov) = plc ov t := by
  obtain ⟨h1, h2⟩ := rise_get h ht
  refine idxOf_at (x := (t : Int)) (by unfold encL; rw [List.getElem?_map, h1]; rfl) (by simp) (fun y hy => ?_)
  unfold encL at hy
  rw [← List.map_take] at hy
  obtain ⟨z, hz, rfl⟩ := List.mem_map.1 hy
  have := h2 z hz
  simp
  omega
theorem call_rises (xs : Array Value) (w : World) : (callFunc 52 xs).run Try.prog w = .ok (.enter 52 xs) w :=
  call_enter Try.func52 (by kernel_rfl) (by kernel_rfl) xs w
def notIn (l : List Int) (v : Int) : Bool := !l.any fun x => v == x
set_option maxRecDepth 100000 in
theorem rises1_any (A : Option Addr) (c : Nat) (l : List Int) (v : Int) (b : Nat) (w : World) (hb : w.cell? ⟨b, 0, none⟩ = some (.slice A l.length c)) (hS : Src w A l.length c 1 (l.map encI)) (hn : l.length ≤ maxLen) :
    Calls Try.prog 52 #[.int .i64 v, .pointer (some ⟨b, 0, none⟩)] w fun e w' => e = .returned (.bool (notIn l v)) ∧ w = w' := by
  have HC := hide (contains_any A c l v w hS hn)
  have HV := hide (show notIn l v = !(l.any fun x => v == x) from rfl)
  generalize notIn l v = z at *
  generalize (l.any fun x => v == x) = y at *
  clear hS
  go_enter Try.func52, Try.ntmps52
  go_wp2_with ((with_reducible refine HC.out.mono ?_); rintro e w' ⟨rfl, rfl⟩)
  go_ret
  exact ⟨by rw [HV.out]; rfl, rfl⟩
/-- each is above the one ahead -/
def RiseI (l : List Int) (n : Nat) : Prop := ∀ (j : Nat) (x y : Int), j + 1 < n → l[j]? = some x → l[j + 1]? = some y → x < y
def RisesOut (vs : Nat) (nd : List Nd) (f : Nat) (l : List Int) (w : World) (e : Ending) (w' : World) : Prop :=
  (¬ RiseI l l.length ∧ e = .returned (.bool false) ∧ Below w.heap.size w w') ∨ (RiseI l l.length ∧ e = .returned (.bool (knownB vs l && !(supL nd f).any (notIn l))) ∧ Below w.heap.size w w')
theorem RiseI.next {l : List Int} {i : Nat} (h : RiseI l (i + 1)) {x y : Int} (hx : l[i]? = some x) (hy : l[i + 1]? = some y) (hxy : x < y) : RiseI l (i + 1 + 1) := by
  intro j a b hj ha hb
  by_cases e : j = i
  · subst e
    rw [hx] at ha
    rw [hy] at hb
    cases ha; cases hb
    exact hxy
  · exact h j a b (by omega) ha hb
set_option maxHeartbeats 2000000 in
set_option maxRecDepth 100000 in
theorem rises_any (k : Blk) (s : St) (f : Nat) (A : Option Addr) (c : Nat) (l : List Int) (w : World) (hA : Ar w k s) (g1 : s.gi f = true) (hf : f < s.nd.length) (hS : Src w A l.length c 1 (l.map encI)) (hn : l.length ≤ 1000000000000) (hm : s.m + 2 ≤ 1000000000) :
    Calls Try.prog 29 #[.pointer (some ⟨k.p, 0, none⟩), .int .i64 f, .slice A l.length c] w (RisesOut s.vs s.nd f l w) := by
  have hbl := bel_one w (.cells #[.slice A l.length c] 37)
  have x0 := heap_new w (.cells #[.slice A l.length c] 37)
  obtain ⟨W, hWd⟩ : ∃ W, W = (w.alloc (.cells #[.slice A l.length c] 37)) := ⟨_, rfl⟩
  rw [← hWd] at hbl x0
  have HA := hide hA
  have HB := hide hbl
  have HX := hide x0
  have HS := hide hS
  have HG := hide g1
  have y0 : W.cell? ⟨w.heap.size, 0, none⟩ = some (.slice A l.length c) := cell_heap x0 rfl
  have HSP := hide (Support_any k s f W (hA.below hbl) g1 hf hm)
  clear hA hbl x0 hS g1
  subst hWd
  go_enter Try.func29, Try.ntmps29
  go_wp2_with fail
  generalize w.alloc (.cells #[.slice A l.length c] 37) = W at *
  go_loop [7, 8, 13] (fun _ _ j => ∃ i : Nat, j = .int .i64 i ∧ i ≤ l.length ∧ RiseI l i) (fun _ _ j => l.length - (intOf j).toNat)
  case atStart => exact ⟨0, rfl, Nat.zero_le _, fun j x y hj => by omega⟩
  case round =>
    obtain ⟨i, rfl, hi, hR⟩ := hrel
    rcases Nat.lt_or_ge i l.length with hlt | hge
    · obtain ⟨x, hx⟩ : ∃ x, l[i]? = some x := ⟨_, List.getElem?_eq_getElem hlt⟩
      have d1 : decide (i < l.length) = true := by simpa using hlt
      have d2 : ((i : Int) < l.length) := by omega
      obtain ⟨ad, rfl, hc⟩ := src_at (Src.below HS.out HB.out) hx
      rcases Nat.eq_zero_or_pos i with rfl | hpos
      · have HR := hide (show RiseI l 1 from fun j a b hj => by omega)
        have hc0 : W.cell? ad = some (.int .i64 x) := hc
        clear hR
        go_wp2_with fail
        go_round
        case rel => exact ⟨1, rfl, by omega, HR.out⟩
        case measure => simp [intOf]; omega
      · obtain ⟨k', rfl⟩ : ∃ k', i = k' + 1 := ⟨i - 1, by omega⟩
        obtain ⟨y, hy⟩ : ∃ y, l[k']? = some y := ⟨_, List.getElem?_eq_getElem (by omega)⟩
        obtain ⟨ad', e', hc'⟩ := src_at (Src.below HS.out HB.out) hy
        cases e'
        have d3 : decide ((0 : Int) < ((k' + 1 : Nat) : Int)) = true := by simp
        have d4 : decide ((0 : Int) < (k' : Int) + 1) = true := by simp
        have d5 : ((k' : Int) < l.length) := by omega
        have hc1 : W.cell? ⟨ad.block, ad.off + (k' + 1), none⟩ = some (.int .i64 x) := hc
        cases hd : decide (x ≤ y)
        · have HR := hide (hR.next hy hx (by have := of_decide_eq_false hd; omega))
          clear hR
          go_wp2_with fail
          go_round
          case rel => exact ⟨k' + 1 + 1, by go_num, by omega, HR.out⟩
          case measure => simp [intOf]; omega
        · have HR := hide (show RisesOut s.vs s.nd f l w (.returned (.bool false)) W from .inl ⟨fun hr => by
            have := hr k' y x (by omega) hy hx
            have := of_decide_eq_true hd
            omega, rfl, HB.out⟩)
          clear hR
          go_wp2_with fail
          go_ret
          exact HR.out
    · have e : i = l.length := by omega
      have d1 : decide (i < l.length) = false := by simp; omega
      have HR := hide (show RiseI l l.length by rw [← e]; exact hR)
      clear hR
      subst e
      go_wp2_with fail
      refine HSP.out.mono ?_
      intro e w2 hh
      unfold SupOut at hh
      obtain ⟨v, rfl, hrow, hb⟩ := hh
      obtain ⟨A2, C2, rfl⟩ := own_slice hrow
      have HB2 := hide (below_wide HB.out hb)
      have y2 : w2.cell? ⟨w.heap.size, 0, none⟩ = some (.slice A l.length c) := cell_heap (heapB hb HX.out) rfl
      have HK := hide (known_any k s A c l w2 (HA.out.below HB2.out) (Src.below HS.out HB2.out) (by unfold maxLen; omega))
      have HROW := hide hrow
      have HX2 := hide (heapB hb HX.out)
      clear hrow hb HSP y0
      cases hk : knownB s.vs l
      · rw [hk] at HK
        have HZ : Hid (∀ w3, Below w2.heap.size w2 w3 → RisesOut s.vs s.nd f l w (.returned (.bool false)) w3) := fun w3 hb => .inr ⟨HR.out, by rw [hk]; rfl, below_wide HB2.out hb⟩
        go_wp2_with fail
        refine HK.out.mono ?_
        rintro e w3 ⟨rfl, hb⟩
        have HZ3 := hide (HZ.out w3 hb)
        clear hb
        go_wp2_with fail
        go_ret
        exact HZ3.out
      · rw [hk] at HK
        have HZ : Hid (∀ w3, Below w2.heap.size w2 w3 → RisesOut s.vs s.nd f l w (.returned (.bool !(supL s.nd f).any (notIn l))) w3) := fun w3 hb => .inr ⟨HR.out, by rw [hk]; rfl, below_wide HB2.out hb⟩
        go_wp2_with fail
        refine HK.out.mono ?_
        rintro e w3 ⟨rfl, hb⟩
        have hx3 := heapB hb HX2.out
        have hrow3 := own_below HROW.out hb
        have hnlen : (supL s.nd f).length ≤ maxLen := by
          unfold maxLen
          rcases hrow3.2 with ⟨_, h0⟩ | ⟨g, cap, cur, _, _, _, h1, h2, _⟩
          · omega
          · unfold maxLen at h2; omega
        have HCF := hide (containsFunc_any A2 C2 (supL s.nd f) 52 #[.pointer (some ⟨w.heap.size, 0, none⟩)] (notIn l) w3 (src_of_own hrow3) hnlen call_rises (fun x _ => rises1_any A c l x w.heap.size w3 (cell_heap hx3 rfl) (Src.below HS.out (below_wide HB2.out hb)) (by unfold maxLen; omega)))
        have HZ3 := hide (HZ.out w3 hb)
        clear hb hx3 hrow3
        generalize (supL s.nd f).any (notIn l) = z at *
        go_wp2_with fail
        refine HCF.out.mono ?_
        rintro e w4 ⟨rfl, rfl⟩
        go_wp2_with fail
        go_ret
        exact HZ3.out
end Go.Proofs.Ytgfjdkkfgclhjaa.Bd
