/- What the claim leans on, part 5 of 7: PD CE CF CG CH CI CK CQ CO. -/
import Derived.Laws.Externs
import Derived.Test.YtgfjdkkfgclhjaaSp01
import Derived.Test.YtgfjdkkfgclhjaaSp02
import Derived.Test.YtgfjdkkfgclhjaaSp03
import Derived.Test.YtgfjdkkfgclhjaaSp04
/- Counting along a rising list of variables, in plain words. No program is in sight. -/
namespace Go.Proofs.Ytgfjdkkfgclhjaa.Bd

abbrev Rise (l : List Nat) : Prop := l.Pairwise (· < ·)
/-- the variables of the list from t on, and how many there are ahead -/
def fromL (ov : List Nat) (t : Nat) : List Nat := ov.filter fun x => decide (t ≤ x)
def plc (ov : List Nat) (t : Nat) : Nat := (ov.filter fun x => decide (x < t)).length
theorem fromL_zero (ov : List Nat) : fromL ov 0 = ov := by unfold fromL; simp
theorem plc_zero (ov : List Nat) : plc ov 0 = 0 := by
  unfold plc
  rw [List.length_eq_zero_iff, List.filter_eq_nil_iff]
  intro x _; simp
theorem mem_fromL {ov : List Nat} {t x : Nat} : x ∈ fromL ov t ↔ x ∈ ov ∧ t ≤ x := by unfold fromL; simp
theorem split_at : ∀ {ov : List Nat}, Rise ov → ∀ {a b : Nat}, a ≤ b → fromL ov a = (ov.filter fun x => decide (a ≤ x ∧ x < b)) ++ fromL ov b := by
  intro ov
  induction ov with
  | nil => intro _ a b _; rfl
  | cons x xs ih =>
    intro h a b hab
    obtain ⟨h1, h2⟩ := List.pairwise_cons.1 h
    have e := ih h2 hab
    unfold fromL at e ⊢
    simp only [List.filter_cons]
    by_cases c1 : a ≤ x
    · by_cases c2 : x < b
      · rw [if_pos (by simpa using c1), if_pos (by simpa using ⟨c1, c2⟩), if_neg (by simpa using c2), e]
        rfl
      · have e1 : (xs.filter fun x => decide (a ≤ x ∧ x < b)) = [] := by
          rw [List.filter_eq_nil_iff]
          intro y hy
          have := h1 y hy
          simp; omega
        rw [if_pos (by simpa using c1), if_neg (by simp; omega), if_pos (by simp; omega), e, e1]
        rfl
    · rw [if_neg (by simpa using c1), if_neg (by simp; omega), if_neg (by simp; omega), e]
theorem plc_add : ∀ (ov : List Nat) {a b : Nat}, a ≤ b → plc ov b = plc ov a + (ov.filter fun x => decide (a ≤ x ∧ x < b)).length := by
  intro ov
  induction ov with
  | nil => intro a b _; rfl
  | cons x xs ih =>
    intro a b hab
    have e := ih hab
    unfold plc at e ⊢
    simp only [List.filter_cons]
    by_cases c1 : a ≤ x
    · by_cases c2 : x < b
      · rw [if_pos (by simpa using c2), if_neg (by simp; omega), if_pos (by simpa using ⟨c1, c2⟩)]
        simp only [List.length_cons]; omega
      · rw [if_neg (by simp; omega), if_neg (by simp; omega), if_neg (by simp; omega)]; exact e
    · rw [if_pos (by simp; omega), if_pos (by simp; omega), if_neg (by simp; omega)]
      simp only [List.length_cons]; omega
theorem one_at {ov : List Nat} (h : Rise ov) {t : Nat} (ht : t ∈ ov) : (ov.filter fun x => decide (t ≤ x ∧ x < t + 1)) = [t] := by
  induction ov with
  | nil => cases ht
  | cons x xs ih =>
    obtain ⟨h1, h2⟩ := List.pairwise_cons.1 h
    simp only [List.filter_cons]
    by_cases e : x = t
    · subst e
      rw [if_pos (by simp)]
      congr 1
      rw [List.filter_eq_nil_iff]
      intro y hy
      have := h1 y hy
      simp; omega
    · rw [if_neg (by simp; omega)]
      refine ih h2 ?_
      rcases List.mem_cons.1 ht with h | h
      · exact absurd h.symm e
      · exact h
theorem fromL_at {ov : List Nat} (h : Rise ov) {t : Nat} (ht : t ∈ ov) : fromL ov t = t :: fromL ov (t + 1) := by
  rw [split_at h (Nat.le_succ t), one_at h ht]; rfl
theorem plc_at {ov : List Nat} (h : Rise ov) {t : Nat} (ht : t ∈ ov) : plc ov (t + 1) = plc ov t + 1 := by
  rw [plc_add ov (Nat.le_succ t), one_at h ht]; rfl
theorem plc_le (ov : List Nat) (t : Nat) : plc ov t ≤ ov.length := List.length_filter_le _ _
theorem plc_mono (ov : List Nat) {a b : Nat} (h : a ≤ b) : plc ov a ≤ plc ov b := by rw [plc_add ov h]; omega
theorem plc_all {ov : List Nat} {t : Nat} (h : ∀ x ∈ ov, x < t) : plc ov t = ov.length := by
  unfold plc
  rw [List.filter_eq_self.2 (fun x hx => by simpa using h x hx)]
theorem fromL_len {ov : List Nat} (t : Nat) : (fromL ov t).length + plc ov t = ov.length := by
  unfold fromL plc
  induction ov with
  | nil => rfl
  | cons x xs ih =>
    simp only [List.filter_cons]
    by_cases c : t ≤ x
    · rw [if_pos (by simpa using c), if_neg (by simp; omega)]; simp only [List.length_cons]; omega
    · rw [if_neg (by simpa using c), if_pos (by simp; omega)]; simp only [List.length_cons]; omega
/-- what stands ahead of its first variable counts twice each -/
theorem cnt_skip {ov : List Nat} (h : Rise ov) {F : Env → Bool} {a t : Nat} (hat : a ≤ t) (hF : ∀ v, v < t → ∀ ρ b, F (upd ρ v b) = F ρ) (ρ : Env) : cntL F (fromL ov a) ρ = cntL F (fromL ov t) ρ * 2 ^ (plc ov t - plc ov a) := by
  rw [split_at h hat, cntL_frees _ _ _ (fun v hv => hF v (by have := (List.mem_filter.1 hv).2; simp at this; omega)), plc_add ov hat, Nat.mul_comm]
  congr 2
  omega
/-- a node's count, out of its halves' -/
theorem cnt_node {ov : List Nat} (h : Rise ov) {Fl Fh : Env → Bool} {t tl th : Nat} (ht : t ∈ ov) (h1 : t < tl) (h2 : t < th) (hl : ∀ v, v < tl → ∀ ρ b, Fl (upd ρ v b) = Fl ρ) (hh : ∀ v, v < th → ∀ ρ b, Fh (upd ρ v b) = Fh ρ) (ρ : Env) :
    cntL (fun ρ => if ρ t then Fh ρ else Fl ρ) (fromL ov t) ρ = cntL Fl (fromL ov tl) ρ * 2 ^ (plc ov tl - plc ov t - 1) + cntL Fh (fromL ov th) ρ * 2 ^ (plc ov th - plc ov t - 1) := by
  rw [fromL_at h ht, cntL_node (hl t h1) (hh t h2) _ (fun hx => by have := (mem_fromL.1 hx).2; omega), cnt_skip h (show t + 1 ≤ tl from h1) hl, cnt_skip h (show t + 1 ≤ th from h2) hh, plc_at h ht]
  congr 3 <;> omega
theorem cnt_lt {ov : List Nat} (F : Env → Bool) (t : Nat) (ρ : Env) (hn : ov.length ≤ 127) : cntL F (fromL ov t) ρ * 2 ^ plc ov t < 340282366920938463463374607431768211456 ∧ cntL F (fromL ov t) ρ * 2 ^ plc ov t ≤ 170141183460469231731687303715884105728 := by
  have h1 := cntL_le F (fromL ov t) ρ
  have h2 := Nat.mul_le_mul_right (2 ^ plc ov t) h1
  rw [← Nat.pow_add, fromL_len] at h2
  have h3 : 2 ^ ov.length ≤ 2 ^ 127 := Nat.pow_le_pow_right (by omega) hn
  have h4 : 2 ^ 127 = 170141183460469231731687303715884105728 := by decide
  omega
end Go.Proofs.Ytgfjdkkfgclhjaa.Bd
/- rises: a list that rises, and has all on which a function hangs. -/
namespace Go.Proofs.Ytgfjdkkfgclhjaa.Bd
open Go.RowKit Go.Proofs.Ytgfjdkkfgclhjaa Go.Proofs.Ytgfjdkkfgclhjaa.Lx Go.Maps

theorem big_div {V P : Nat} (h : V * P * 18446744073709551616 < 340282366920938463463374607431768211456) : V * P < 18446744073709551616 := by
  generalize V * P = X at *
  omega
theorem pow_split (k : Nat) : 2 ^ (k + 64) = 2 ^ k * 18446744073709551616 := by
  rw [Nat.pow_add]
theorem hi_zero {hi lo P : Nat} (hP : 0 < P) (h : val (hi, lo) * P < 18446744073709551616) : hi = 0 := by
  have h0 : val (hi, lo) < 18446744073709551616 := Nat.lt_of_le_of_lt (Nat.le_mul_of_pos_right _ hP) h
  unfold val at h0
  simp only at h0
  omega
theorem val_turn (lo P : Nat) : val (lo, 0) * P = val (0, lo) * P * 18446744073709551616 := by
  have a : val (lo, 0) = lo * 18446744073709551616 := Nat.add_zero _
  have b : val (0, lo) = lo := by
    show 0 * 18446744073709551616 + lo = lo
    rw [Nat.zero_mul, Nat.zero_add]
  rw [a, b]
  exact Nat.mul_right_comm _ _ _
theorem times_any (c : Cn) (n : Nat) (w : World) (hc : ok2 c) (hv : val c * 2 ^ n < 340282366920938463463374607431768211456) (hn : n < 128) :
    Calls Try.prog 33 #[cEl c, .int .i64 n] w fun e w' => e = .returned (cEl (ofN (val c * 2 ^ n))) ∧ Below w.heap.size w w' := by
  obtain ⟨hi, lo⟩ := c
  obtain ⟨h1, h2⟩ := hc
  rcases Nat.lt_or_ge n 64 with h | h
  · exact times_small hi lo n w h1 h2 h hv
  · obtain ⟨k, hk⟩ : ∃ k, n = k + 64 := ⟨n - 64, by omega⟩
    rw [hk, pow_split, ← Nat.mul_assoc] at hv
    have hv2 := big_div hv
    obtain rfl := hi_zero (Nat.two_pow_pos k) hv2
    have := times_big lo k w h2 (by omega) (by rw [val_turn]; exact hv)
    rw [val_turn] at this
    rw [hk, pow_split, ← Nat.mul_assoc, show ((k + 64 : Nat) : Int) = (k : Int) + 64 from by push_cast; rfl]
    exact this
theorem src_of_own {w : World} {base e n c : Nat} {A : Option Addr} {xs : List Value} (h : w.ownsRow base e 1 (.slice A n c) n xs) : Src w A n c 1 xs := by
  refine ⟨h.1, ?_⟩
  rcases h.2 with ⟨h1, h2⟩ | ⟨g, cap, cur, h1, _⟩
  · injection h1 with a b c
    exact .inl ⟨a, h2, c⟩
  · injection h1 with a b c
    subst a
    refine .inr ⟨_, rfl, fun j u hu => ?_⟩
    have hl := h.1
    have hj := lt_of_some hu
    have := h.cellAt j (by omega)
    rw [show (Addr.add ⟨g, 0, none⟩ j) = ⟨g, j, none⟩ by unfold Addr.add; split <;> simp_all]
    exact this.trans hu
/-- the place of a variable in a rising list -/
theorem rise_get {ov : List Nat} (h : Rise ov) {t : Nat} (ht : t ∈ ov) : ov[plc ov t]? = some t ∧ ∀ y ∈ ov.take (plc ov t), y < t := by
  have e := split_at h (Nat.zero_le t)
  rw [fromL_zero, fromL_at h ht] at e
  have el : (ov.filter fun x => decide (0 ≤ x ∧ x < t)).length = plc ov t := by
    have := plc_add ov (Nat.zero_le t)
    rw [plc_zero] at this
    omega
  constructor
  · conv => lhs; arg 1; rw [e]
    rw [List.getElem?_append_right (by omega), el]
    simp
  · intro y hy
    have e2 : ov.take (plc ov t) = ov.filter fun x => decide (0 ≤ x ∧ x < t) := by
      conv => lhs; arg 2; rw [e]
      rw [← el, List.take_left]
    rw [e2] at hy
    have := (List.mem_filter.1 hy).2
    simp at this
    exact this
theorem idx_plc {ov : List Nat} (h : Rise ov) {t : Nat} (ht : t ∈ ov) : idxOf (fun x => (t : Int) == x) (encL ov) = plc ov t := by
  obtain ⟨h1, h2⟩ := rise_get h ht
  refine idxOf_at (x := (t : Int)) (by unfold encL; rw [List.getElem?_map, h1]; rfl) (by simp) (fun y hy => ?_)
  unfold encL at hy
  rw [← List.map_take] at hy
  obtain ⟨z, hz, rfl⟩ := List.mem_map.1 hy
  have := h2 z hz
  simp
  omega
theorem call_rises (xs : Array Value) (w : World) : (callFunc 52 xs).run Try.prog w = .ok (.enter 52 xs) w :=
  call_enter Try.func52 (by kernel_rfl) (by kernel_rfl) xs w
def notIn (l : List Int) (v : Int) : Bool := !l.any fun x => v == x
set_option maxRecDepth 100000 in
theorem rises1_any (A : Option Addr) (c : Nat) (l : List Int) (v : Int) (b : Nat) (w : World) (hb : w.cell? ⟨b, 0, none⟩ = some (.slice A l.length c)) (hS : Src w A l.length c 1 (l.map encI)) (hn : l.length ≤ maxLen) :
    Calls Try.prog 52 #[.int .i64 v, .pointer (some ⟨b, 0, none⟩)] w fun e w' => e = .returned (.bool (notIn l v)) ∧ w = w' := by
  have HC := hide (contains_any A c l v w hS hn)
  have HV := hide (show notIn l v = !(l.any fun x => v == x) from rfl)
  generalize notIn l v = z at *
  generalize (l.any fun x => v == x) = y at *
  clear hS
  go_enter Try.func52, Try.ntmps52
  go_wp2_with ((with_reducible refine HC.out.mono ?_); rintro e w' ⟨rfl, rfl⟩)
  go_ret
  exact ⟨by rw [HV.out]; rfl, rfl⟩
/-- each is above the one ahead -/
def RiseI (l : List Int) (n : Nat) : Prop := ∀ (j : Nat) (x y : Int), j + 1 < n → l[j]? = some x → l[j + 1]? = some y → x < y
def RisesOut (vs : Nat) (nd : List Nd) (f : Nat) (l : List Int) (w : World) (e : Ending) (w' : World) : Prop :=
  (¬ RiseI l l.length ∧ e = .returned (.bool false) ∧ Below w.heap.size w w') ∨ (RiseI l l.length ∧ e = .returned (.bool (knownB vs l && !(supL nd f).any (notIn l))) ∧ Below w.heap.size w w')
theorem RiseI.next {l : List Int} {i : Nat} (h : RiseI l (i + 1)) {x y : Int} (hx : l[i]? = some x) (hy : l[i + 1]? = some y) (hxy : x < y) : RiseI l (i + 1 + 1) := by
  intro j a b hj ha hb
  by_cases e : j = i
  · subst e
    rw [hx] at ha
    rw [hy] at hb
    cases ha; cases hb
    exact hxy
  · exact h j a b (by omega) ha hb
set_option maxHeartbeats 2000000 in
set_option maxRecDepth 100000 in
theorem rises_any (k : Blk) (s : St) (f : Nat) (A : Option Addr) (c : Nat) (l : List Int) (w : World) (hA : Ar w k s) (g1 : s.gi f = true) (hf : f < s.nd.length) (hS : Src w A l.length c 1 (l.map encI)) (hn : l.length ≤ 1000000000000) (hm : s.m + 2 ≤ 1000000000) :
    Calls Try.prog 29 #[.pointer (some ⟨k.p, 0, none⟩), .int .i64 f, .slice A l.length c] w (RisesOut s.vs s.nd f l w) := by
  have hbl := bel_one w (.cells #[.slice A l.length c] 37)
  have x0 := heap_new w (.cells #[.slice A l.length c] 37)
  obtain ⟨W, hWd⟩ : ∃ W, W = (w.alloc (.cells #[.slice A l.length c] 37)) := ⟨_, rfl⟩
  rw [← hWd] at hbl x0
  have HA := hide hA
  have HB := hide hbl
  have HX := hide x0
  have HS := hide hS
  have HG := hide g1
  have y0 : W.cell? ⟨w.heap.size, 0, none⟩ = some (.slice A l.length c) := cell_heap x0 rfl
  have HSP := hide (Support_any k s f W (hA.below hbl) g1 hf hm)
  clear hA hbl x0 hS g1
  subst hWd
  go_enter Try.func29, Try.ntmps29
  go_wp2_with fail
  generalize w.alloc (.cells #[.slice A l.length c] 37) = W at *
  go_loop [7, 8, 13] (fun _ _ j => ∃ i : Nat, j = .int .i64 i ∧ i ≤ l.length ∧ RiseI l i) (fun _ _ j => l.length - (intOf j).toNat)
  case atStart => exact ⟨0, rfl, Nat.zero_le _, fun j x y hj => by omega⟩
  case round =>
    obtain ⟨i, rfl, hi, hR⟩ := hrel
    rcases Nat.lt_or_ge i l.length with hlt | hge
    · obtain ⟨x, hx⟩ : ∃ x, l[i]? = some x := ⟨_, List.getElem?_eq_getElem hlt⟩
      have d1 : decide (i < l.length) = true := by simpa using hlt
      have d2 : ((i : Int) < l.length) := by omega
      obtain ⟨ad, rfl, hc⟩ := src_at (Src.below HS.out HB.out) hx
      rcases Nat.eq_zero_or_pos i with rfl | hpos
      · have HR := hide (show RiseI l 1 from fun j a b hj => by omega)
        have hc0 : W.cell? ad = some (.int .i64 x) := hc
        clear hR
        go_wp2_with fail
        go_round
        case rel => exact ⟨1, rfl, by omega, HR.out⟩
        case measure => simp [intOf]; omega
      · obtain ⟨k', rfl⟩ : ∃ k', i = k' + 1 := ⟨i - 1, by omega⟩
        obtain ⟨y, hy⟩ : ∃ y, l[k']? = some y := ⟨_, List.getElem?_eq_getElem (by omega)⟩
        obtain ⟨ad', e', hc'⟩ := src_at (Src.below HS.out HB.out) hy
        cases e'
        have d3 : decide ((0 : Int) < ((k' + 1 : Nat) : Int)) = true := by simp
        have d4 : decide ((0 : Int) < (k' : Int) + 1) = true := by simp
        have d5 : ((k' : Int) < l.length) := by omega
        have hc1 : W.cell? ⟨ad.block, ad.off + (k' + 1), none⟩ = some (.int .i64 x) := hc
        cases hd : decide (x ≤ y)
        · have HR := hide (hR.next hy hx (by have := of_decide_eq_false hd; omega))
          clear hR
          go_wp2_with fail
          go_round
          case rel => exact ⟨k' + 1 + 1, by go_num, by omega, HR.out⟩
          case measure => simp [intOf]; omega
        · have HR := hide (show RisesOut s.vs s.nd f l w (.returned (.bool false)) W from .inl ⟨fun hr => by
            have := hr k' y x (by omega) hy hx
            have := of_decide_eq_true hd
            omega, rfl, HB.out⟩)
          clear hR
          go_wp2_with fail
          go_ret
          exact HR.out
    · have e : i = l.length := by omega
      have d1 : decide (i < l.length) = false := by simp; omega
      have HR := hide (show RiseI l l.length by rw [← e]; exact hR)
      clear hR
      subst e
      go_wp2_with fail
      refine HSP.out.mono ?_
      intro e w2 hh
      unfold SupOut at hh
      obtain ⟨v, rfl, hrow, hb⟩ := hh
      obtain ⟨A2, C2, rfl⟩ := own_slice hrow
      have HB2 := hide (below_wide HB.out hb)
      have y2 : w2.cell? ⟨w.heap.size, 0, none⟩ = some (.slice A l.length c) := cell_heap (heapB hb HX.out) rfl
      have HK := hide (known_any k s A c l w2 (HA.out.below HB2.out) (Src.below HS.out HB2.out) (by unfold maxLen; omega))
      have HROW := hide hrow
      have HX2 := hide (heapB hb HX.out)
      clear hrow hb HSP y0
      cases hk : knownB s.vs l
      · rw [hk] at HK
        have HZ : Hid (∀ w3, Below w2.heap.size w2 w3 → RisesOut s.vs s.nd f l w (.returned (.bool false)) w3) := fun w3 hb => .inr ⟨HR.out, by rw [hk]; rfl, below_wide HB2.out hb⟩
        go_wp2_with fail
        refine HK.out.mono ?_
        rintro e w3 ⟨rfl, hb⟩
        have HZ3 := hide (HZ.out w3 hb)
        clear hb
        go_wp2_with fail
        go_ret
        exact HZ3.out
      · rw [hk] at HK
        have HZ : Hid (∀ w3, Below w2.heap.size w2 w3 → RisesOut s.vs s.nd f l w (.returned (.bool !(supL s.nd f).any (notIn l))) w3) := fun w3 hb => .inr ⟨HR.out, by rw [hk]; rfl, below_wide HB2.out hb⟩
        go_wp2_with fail
        refine HK.out.mono ?_
        rintro e w3 ⟨rfl, hb⟩
        have hx3 := heapB hb HX2.out
        have hrow3 := own_below HROW.out hb
        have hnlen : (supL s.nd f).length ≤ maxLen := by
          unfold maxLen
          rcases hrow3.2 with ⟨_, h0⟩ | ⟨g, cap, cur, _, _, _, h1, h2, _⟩
          · omega
          · unfold maxLen at h2; omega
        have HCF := hide (containsFunc_any A2 C2 (supL s.nd f) 52 #[.pointer (some ⟨w.heap.size, 0, none⟩)] (notIn l) w3 (src_of_own hrow3) hnlen call_rises (fun x _ => rises1_any A c l x w.heap.size w3 (cell_heap hx3 rfl) (Src.below HS.out (below_wide HB2.out hb)) (by unfold maxLen; omega)))
        have HZ3 := hide (HZ.out w3 hb)
        clear hb hx3 hrow3
        generalize (supL s.nd f).any (notIn l) = z at *
        go_wp2_with fail
        refine HCF.out.mono ?_
        rintro e w4 ⟨rfl, rfl⟩
        go_wp2_with fail
        go_ret
        exact HZ3.out
end Go.Proofs.Ytgfjdkkfgclhjaa.Bd
/- Count: where a node's variable stands. -/
namespace Go.Proofs.Ytgfjdkkfgclhjaa.Bd
open Go.RowKit Go.Proofs.Ytgfjdkkfgclhjaa Go.Proofs.Ytgfjdkkfgclhjaa.Lx Go.Maps

set_option maxHeartbeats 1000000 in
set_option maxRecDepth 100000 in
theorem place_any (S : Nat → Bool) (k : Blk) (s : St) (f t : Nat) (F : Env → Bool) (A : Option Addr) (c : Nat) (ov : List Nat) (b5 b3 : Nat) (w : World) (hA : Ar w k s) (d : Den S s.nd f t F) (hov : Rise ov) (hall : ∀ x ∈ ov, x < 256) (hin : 2 ≤ f → t ∈ ov) (hS : Src w A ov.length c 1 ((encL ov).map encI)) (hn : ov.length ≤ 127) (c5 : w.cell? ⟨b5, 0, none⟩ = some (.slice A ov.length c)) (c3 : w.cell? ⟨b3, 0, none⟩ = some (.pointer (some ⟨k.p, 0, none⟩))) (hm : s.m + 2 ≤ 1000000000) :
    Calls Try.prog 30 #[.int .i32 f, .pointer (some ⟨b5, 0, none⟩), .pointer (some ⟨b3, 0, none⟩)] w fun e w' => e = .returned (.int .i64 (plc ov t)) ∧ Below w.heap.size w w' := by
  have hW := hA.wf
  have hnm := hA.nm
  have hfl := d.lt hW
  rcases Nat.lt_or_ge f 2 with h2 | h2
  · have d1 : decide ((f : Int) < 2) = true := by simp; omega
    obtain ⟨rfl, _⟩ := d.ends h2
    have HV := hide (plc_all hall)
    clear hA d hin hS
    go_enter Try.func30, Try.ntmps30
    go_wp2_with fail
    go_ret
    exact ⟨by rw [HV.out]; rfl, Below.refl _ _⟩
  · have d1 : decide ((f : Int) < 2) = false := by simp; omega
    obtain ⟨lo, hi, tl, th, Fl, Fh, hr, r1, r2, r3, r4, r5, r6, r7, dl, dh, _⟩ := d.row h2
    obtain ⟨_, _, H, _⟩ := hA
    have hfi : (f : Int) < s.nd.length := by omega
    have u5 := lat_cell c5
    have u3 := lat_cell c3
    have u2 := lat_cell H.c2
    have u0 := lat_cell (H.node hr).1
    have HI := hide (fun x => (index_any A c (encL ov) (t : Int) (lat w x) (by rw [encL_len]; exact Src.below hS (lat_below w x)) (by rw [encL_len]; unfold maxLen; omega)))
    rw [idx_plc hov (hin h2), encL_len] at HI
    clear hin hS d dl dh H c5 c3
    go_enter Try.func30, Try.ntmps30
    go_wp2_with fail
    refine wp_region_lat (by kernel_rfl) (by kernel_rfl) ?_
    repeat (first | go_big_quiet_step ((go_at_call 31; exact calls_lat_same (HI.out _))) | quiet_step ((go_at_call 31; exact calls_lat_same (HI.out _))))
    refine wpQuiet_nil ?_
    intro _ hlat
    obtain ⟨wq, rfl⟩ := hlat
    go_wp2_with fail
    go_ret
    exact ⟨rfl, lat_below w wq⟩
end Go.Proofs.Ytgfjdkkfgclhjaa.Bd
/- Count: the walk over a diagram. -/
namespace Go.Proofs.Ytgfjdkkfgclhjaa.Bd
open Go.RowKit Go.Proofs.Ytgfjdkkfgclhjaa Go.Proofs.Ytgfjdkkfgclhjaa.Lx Go.Maps

def z0 : Env := fun _ => false
/-- for how many values, from its own variable on -/
def cntN (ov : List Nat) (t : Nat) (F : Env → Bool) : Cn := ofN (cntL F (fromL ov t) z0)
structure DoneC (S : Nat → Bool) (nd : List Nd) (ov : List Nat) (fd : Int → Option Cn) : Prop where
  d0 : (fd 0).isSome = true
  d1 : (fd 1).isSome = true
  all : ∀ (i : Nat) c, fd i = some c → ∀ t F, Den S nd i t F → c = cntN ov t F
theorem DoneC.put {S : Nat → Bool} {nd : List Nd} {ov : List Nat} {fd : Int → Option Cn} (h : DoneC S nd ov fd) {f : Nat} (h2 : 2 ≤ f) {c : Cn} (hc : ∀ t F, Den S nd f t F → c = cntN ov t F) : DoneC S nd ov (fun x => if x = (f : Int) then some c else fd x) := by
  refine ⟨by rw [if_neg (by omega)]; exact h.d0, by rw [if_neg (by omega)]; exact h.d1, fun i c' hi => ?_⟩
  split at hi
  · rename_i e
    cases hi
    have : i = f := by omega
    subst this
    exact hc
  · exact h.all i c' hi
/-- what the walk has in memory -/
structure Cs (w : World) (p b1 b2 b3 b4 b5 db N : Nat) (sl : Value) (fd : Int → Option Cn) : Prop where
  c1 : w.heap[b1]? = some (.cells #[.map (some db)] 70 (0, 0))
  c2 : w.heap[b2]? = some (.cells #[.pointer (some ⟨p, 0, none⟩)] 24 (0, 0))
  c3 : w.heap[b3]? = some (.cells #[.func (.func 32) #[] #[.pointer (some ⟨b1, 0, none⟩), .pointer (some ⟨b2, 0, none⟩), .pointer (some ⟨b3, 0, none⟩), .pointer (some ⟨b4, 0, none⟩)]] 71 (0, 0))
  c4 : w.heap[b4]? = some (.cells #[.func (.func 30) #[] #[.pointer (some ⟨b5, 0, none⟩), .pointer (some ⟨b2, 0, none⟩)]] 69 (0, 0))
  c5 : w.heap[b5]? = some (.cells #[sl] 37 (0, 0))
  done : MCnt Try.prog w 21 db N enc3 fd
theorem Cs.ne {w : World} {p b1 b2 b3 b4 b5 db N : Nat} {sl : Value} {fd : Int → Option Cn} (h : Cs w p b1 b2 b3 b4 b5 db N sl fd) {i : Nat} {cs : Array Value} {t : TypeId} (hc : w.heap[i]? = some (.cells cs t (0, 0))) : some db ≠ some i := by
  obtain ⟨_, _, hs⟩ := h.done.heap
  exact opt_ne (Ne.symm (ne_kind hc hs))
theorem Cs.kept {w w' : World} {p b1 b2 b3 b4 b5 db N N' : Nat} {sl : Value} {fd fd' : Int → Option Cn} (h : Cs w p b1 b2 b3 b4 b5 db N sl fd) (hg : w.grownBy w' (some db)) (hd : MCnt Try.prog w' 21 db N' enc3 fd') : Cs w' p b1 b2 b3 b4 b5 db N' sl fd' :=
  ⟨heap_grown h.c1 hg (h.ne h.c1), heap_grown h.c2 hg (h.ne h.c2), heap_grown h.c3 hg (h.ne h.c3), heap_grown h.c4 hg (h.ne h.c4), heap_grown h.c5 hg (h.ne h.c5), hd⟩
theorem Cs.below {w w' : World} {p b1 b2 b3 b4 b5 db N : Nat} {sl : Value} {fd : Int → Option Cn} (h : Cs w p b1 b2 b3 b4 b5 db N sl fd) (hb : Below w.heap.size w w') : Cs w' p b1 b2 b3 b4 b5 db N sl fd :=
  h.kept (below_grown hb _) (h.done.kept (below_grown hb none) (by simp))
def CntOut (S : Nat → Bool) (nd : List Nd) (ov : List Nat) (w : World) (db N n : Nat) (c : Cn) (e : Ending) (w' : World) : Prop :=
  ∃ (N' : Nat) (fd' : Int → Option Cn), e = .returned (cEl c) ∧ w.grownBy w' (some db) ∧ N' + 1 ≤ N + 2 ^ n ∧ MCnt Try.prog w' 21 db N' enc3 fd' ∧ DoneC S nd ov fd'
structure CntHyp (S : Nat → Bool) (k : Blk) (s : St) (w0 : World) (A : Option Addr) (c : Nat) (ov : List Nat) : Prop where
  hA : Ar w0 k s
  hov : Rise ov
  hall : ∀ x ∈ ov, x < 256
  hin : ∀ x, S x = true → x ∈ ov
  hS : Src w0 A ov.length c 1 ((encL ov).map encI)
  hn : ov.length ≤ 127
  hm : s.m + 2 ≤ 1000000000
def CntAt (S : Nat → Bool) (k : Blk) (s : St) (w0 : World) (A : Option Addr) (c : Nat) (ov : List Nat) (b1 b2 b3 b4 b5 db n : Nat) : Prop :=
  ∀ (f t : Nat) (F : Env → Bool) (w : World) (N : Nat) (fd : Int → Option Cn), f < n → Den S s.nd f t F → Below w0.heap.size w0 w → Cs w k.p b1 b2 b3 b4 b5 db N (.slice A ov.length c) fd → DoneC S s.nd ov fd → N + 2 ^ nS S t ≤ 2000000000 →
    Calls Try.prog 32 #[.int .i32 f, .pointer (some ⟨b1, 0, none⟩), .pointer (some ⟨b2, 0, none⟩), .pointer (some ⟨b3, 0, none⟩), .pointer (some ⟨b4, 0, none⟩)] w (CntOut S s.nd ov w db N (nS S t) (cntN ov t F))
theorem zeroC (w : World) : (zeroValue 34).run Try.prog w = .ok (cEl (0, 0)) w := by
  exact Try.zeroValue34 w
set_option maxHeartbeats 2000000 in
set_option maxRecDepth 100000 in
theorem count_done (S : Nat → Bool) (k : Blk) (s : St) (w0 : World) (A : Option Addr) (c : Nat) (ov : List Nat) (b1 b2 b3 b4 b5 db : Nat) (H : CntHyp S k s w0 A c ov) (f t : Nat) (F : Env → Bool) (w : World) (N : Nat) (fd : Int → Option Cn) (d : Den S s.nd f t F) (hE : Cs w k.p b1 b2 b3 b4 b5 db N (.slice A ov.length c) fd) (hD : DoneC S s.nd ov fd) (cc : Cn) (hf : fd f = some cc) :
    Calls Try.prog 32 #[.int .i32 f, .pointer (some ⟨b1, 0, none⟩), .pointer (some ⟨b2, 0, none⟩), .pointer (some ⟨b3, 0, none⟩), .pointer (some ⟨b4, 0, none⟩)] w (CntOut S s.nd ov w db N (nS S t) (cntN ov t F)) := by
  have hW := H.hA.wf
  have hnm := H.hA.nm
  have hfl := d.lt hW
  have hm := H.hm
  have hcc := hD.all f cc hf t F d
  subst hcc
  have hb := bel_one w (.cells #[.int .u64 0, .int .u64 0] 34)
  have hE1 := hE.below hb
  have k1 := cell_heap (j := 0) hE1.c1 rfl
  have lk := hE1.done.look keyed3 Try.underlying70 (zeroC _) (key3 f (by omega) (by omega))
  rw [hf] at lk
  simp only [Option.getD_some, Option.isSome_some] at lk
  unfold enc3 cEl at lk
  generalize hcn : cntN ov t F = cc at *
  have HX : Hid (∀ w', Below w.heap.size w w' → CntOut S s.nd ov w db N (nS S t) cc (.returned (.agg #[.int .u64 cc.1, .int .u64 cc.2])) w') := fun w' hb' =>
    ⟨N, fd, rfl, below_grown hb' _, by have := Nat.one_le_two_pow (n := nS S t); omega, hE.done.kept (below_grown hb' none) (by simp), hD⟩
  have hX2 := hide (two_boxes w #[.int .u64 cc.1, .int .u64 cc.2] #[.int .u64 cc.1, .int .u64 cc.2] 34 34)
  clear hE hE1 hD d H hb hcn hf
  go_enter Try.func32, Try.ntmps32
  go_wp2_with fail
  generalize (w.alloc (.cells #[.int .u64 cc.1, .int .u64 cc.2] 34)).alloc (.cells #[.int .u64 cc.1, .int .u64 cc.2] 34) = w9 at *
  have q0 := cell_heap (j := 0) hX2.out.1 rfl
  have q1 := cell_heap (j := 1) hX2.out.1 rfl
  exact bodyPost_ret (v := .agg #[.int .u64 cc.1, .int .u64 cc.2]) (by simp [results, Try.results32, go_sem, q0, q1]) rfl (HX.out _ hX2.out.2.2)
theorem three_boxes (w : World) (a b c : Array Value) (ta tb tc : TypeId) : (((w.alloc (.cells a ta)).alloc (.cells b tb)).alloc (.cells c tc)).heap[w.heap.size]? = some (.cells a ta (0, 0)) ∧ (((w.alloc (.cells a ta)).alloc (.cells b tb)).alloc (.cells c tc)).heap[w.heap.size + 1]? = some (.cells b tb (0, 0)) ∧ (((w.alloc (.cells a ta)).alloc (.cells b tb)).alloc (.cells c tc)).heap[w.heap.size + 1 + 1]? = some (.cells c tc (0, 0)) ∧ Below w.heap.size w (((w.alloc (.cells a ta)).alloc (.cells b tb)).alloc (.cells c tc)) ∧ (((w.alloc (.cells a ta)).alloc (.cells b tb)).alloc (.cells c tc)).heap.size = w.heap.size + 3 := by
  obtain ⟨h1, h2, h3⟩ := two_boxes w a b ta tb
  refine ⟨heap_old h1, heap_old h2, ?_, h3.alloc (by simp; omega) _, by simp⟩
  have := heap_new ((w.alloc (.cells a ta)).alloc (.cells b tb)) (.cells c tc)
  rw [show ((w.alloc (.cells a ta)).alloc (.cells b tb)).heap.size = w.heap.size + 1 + 1 by simp] at this
  exact this
/-- two numbers of two words, added -/
theorem add_words {X Y : Nat} (h : X + Y < 340282366920938463463374607431768211456) : ∃ h1 : Nat, IntKind.u64.wrap (((ofN X).1 : Int) + ((ofN Y).1 : Int)) = (h1 : Int) ∧ IntKind.u64.wrap ((h1 : Int) + ((((ofN X).2 + (ofN Y).2) / 18446744073709551616 : Nat) : Int)) = ((ofN (X + Y)).1 : Int) ∧ ((ofN X).2 + (ofN Y).2) % 18446744073709551616 = (ofN (X + Y)).2 := by
  unfold ofN
  simp only
  refine ⟨X / 18446744073709551616 + Y / 18446744073709551616, ?_, ?_, ?_⟩
  · rw [IntKind.wrap_u64]; omega
  · rw [IntKind.wrap_u64]; omega
  · omega
theorem add_run {a b : Nat} (w : World) : (callFunc 34 #[.int .u64 a, .int .u64 b, .int .u64 0]).run Try.prog w = .ok (.value (.tuple #[.int .u64 ((a + b) % 18446744073709551616 : Nat), .int .u64 ((a + b) / 18446744073709551616 : Nat)])) w := by
  have h := run_callFunc_extern (P := Try.prog) (e := add64Entry) Try.func34 (by kernel_rfl) (by kernel_rfl) rfl rfl #[.int .u64 a, .int .u64 b, .int .u64 0] w
  rw [h, run_add64 _ _ _ (by omega) (by omega) (by omega) (by omega)]
  simp only [Result.andThen]
  congr 4
theorem gb_trans {a w w' : World} {row : Option Nat} (h : a.grownBy w row) (k : w.grownBy w' row) : a.grownBy w' row :=
  ⟨k.os.trans h.os, k.tape.trans h.tape, k.output.trans h.output, Nat.le_trans h.size k.size, fun i hi hr => (k.block i (Nat.lt_of_lt_of_le hi h.size) hr).trans (h.block i hi hr)⟩
/-- a fresh pair of words -/
def Zed (wr w : World) (z : Nat) : Prop := w.heap[z]? = some (.cells #[.int .u64 0, .int .u64 0] 34 (0, 0)) ∧ wr.heap.size ≤ z
theorem zed_new {wr : World} (w : World) (h : wr.heap.size ≤ w.heap.size) : Zed wr (w.alloc (.cells #[.int .u64 0, .int .u64 0] 34)) w.heap.size := ⟨heap_new _ _, h⟩
theorem bel_drew (w : World) (o : Obj) : Below w.drew.heap.size w.drew (w.alloc o).drew := by
  have h := (bel_one w o).drew
  exact ⟨h.os, h.tape, h.output, h.size, h.block⟩
theorem zed_new0 (wr : World) : Zed wr ((wr.alloc (.cells #[.int .u64 0, .int .u64 0] 34)).drew) wr.heap.size := ⟨heap_new _ _, Nat.le_refl _⟩
theorem Zed.grown {wr w w' : World} {z db : Nat} (h : Zed wr w z) (hg : w.grownBy w' (some db)) (hd : db < wr.heap.size) : Zed wr w' z := ⟨heap_grown h.1 hg (opt_ne (by have := h.2; omega)), h.2⟩
theorem Zed.below {wr w w' : World} {z : Nat} (h : Zed wr w z) (hb : Below w.heap.size w w') : Zed wr w' z := ⟨heapB hb h.1, h.2⟩
theorem pu0 {wr w w6 : World} (hb : Below w.heap.size w w6) : Below w.heap.size w w6 ∧ ∀ z, Zed wr w z → Zed wr w6 z := ⟨hb, fun _ h => h.below hb⟩
theorem pu1 {wr w w6 : World} {o : Obj} (hb : Below (w.alloc o).heap.size (w.alloc o) w6) : Below w.heap.size w w6 ∧ ∀ z, Zed wr (w.alloc o) z → Zed wr w6 z := ⟨below_wide (bel_one w o) hb, fun _ h => h.below hb⟩
theorem fin_set {wr w8 : World} {z : Nat} {u v : Value} (h : Zed wr w8 z) : ((w8.setCell ⟨z, 0, none⟩ u).setCell ⟨z, 1, none⟩ v).heap[z]? = some (.cells #[u, v] 34 (0, 0)) ∧ (wr.heap.size ≤ w8.heap.size → Below wr.heap.size w8 ((w8.setCell ⟨z, 0, none⟩ u).setCell ⟨z, 1, none⟩ v)) := by
  refine ⟨by rw [heap_set (heap_set h.1)]; rfl, fun hs => ?_⟩
  have hb : Below wr.heap.size w8 w8 := (Below.refl w8.heap.size w8).mono hs
  exact (hb.setCell (p := ⟨z, 0, none⟩) h.2 u).setCell (p := ⟨z, 1, none⟩) h.2 v
theorem fin_new {wr w8 : World} {u v : Value} : (w8.alloc (.cells #[u, v] 34)).heap[w8.heap.size]? = some (.cells #[u, v] 34 (0, 0)) ∧ (wr.heap.size ≤ w8.heap.size → Below wr.heap.size w8 (w8.alloc (.cells #[u, v] 34))) :=
  ⟨heap_new _ _, fun hs => (bel_one w8 _).mono hs⟩
theorem MCnt.block {P : Program} {w w' : World} {kt : TypeId} {b n : Nat} {α : Type} {en : α → Value} {f : α → Option Cn} (h : MCnt P w kt b n en f) (hb : w'.heap[b]? = w.heap[b]?) : MCnt P w' kt b n en f := by
  obtain ⟨D, h1, h2⟩ := h
  obtain ⟨es, cl, hh, F, hs', hD⟩ := h1
  exact ⟨D, ⟨es, cl, hb.trans hh, F, hs', hD⟩, h2⟩
/-- what a round of the loop over the two halves keeps -/
structure Cr (S : Nat → Bool) (k : Blk) (s : St) (w0 w wr : World) (A : Option Addr) (c : Nat) (ov : List Nat) (b1 b2 b3 b4 b5 db sb N E2 lo hi X i : Nat) (N' : Nat) (fd' : Int → Option Cn) : Prop where
  g : w.grownBy wr (some db)
  b : Below w0.heap.size w0 wr
  res : wr.heap[w.heap.size]? = some (.cells #[.int .u64 0, .int .u64 0] 34 (0, 0))
  acc : wr.heap[w.heap.size + 1 + 1]? = some (.cells #[.int .u64 (ofN X).1, .int .u64 (ofN X).2] 34 (0, 0))
  two : wr.heap[sb]? = some (.cells #[.int .i32 lo, .int .i32 hi] 21 (0, 0))
  E : Cs wr k.p b1 b2 b3 b4 b5 db N' (.slice A ov.length c) fd'
  D : DoneC S s.nd ov fd'
  n : N' + i ≤ N + i * E2
theorem gb_set {a w : World} {row : Option Nat} (h : a.grownBy w row) {b : Nat} (hb : a.heap.size ≤ b) (j : Nat) (u : Value) : a.grownBy (w.setCell ⟨b, j, none⟩ u) row :=
  ⟨h.os, h.tape, h.output, by simpa [World.setCell] using h.size, fun i hi hr => (Below.heap_setCell _ _ _ _ (show i ≠ b by omega)).trans (h.block i hi hr)⟩
theorem Cs.far {w : World} {p b1 b2 b3 b4 b5 db N b j : Nat} {sl u : Value} {cs : Array Value} {fd : Int → Option Cn} (h : Cs w p b1 b2 b3 b4 b5 db N sl fd) (hb : w.heap[b]? = some (.cells cs 34 (0, 0))) : Cs (w.setCell ⟨b, j, none⟩ u) p b1 b2 b3 b4 b5 db N sl fd := by
  obtain ⟨_, _, hs⟩ := h.done.heap
  exact ⟨heap_far h.c1 (heap_ne h.c1 hb (by decide)), heap_far h.c2 (heap_ne h.c2 hb (by decide)), heap_far h.c3 (heap_ne h.c3 hb (by decide)), heap_far h.c4 (heap_ne h.c4 hb (by decide)), heap_far h.c5 (heap_ne h.c5 hb (by decide)), h.done.setCell (Ne.symm (ne_kind hb hs)) _⟩
theorem cr_next {S : Nat → Bool} {k : Blk} {s : St} {w0 w wr w9 : World} {A : Option Addr} {c : Nat} {ov : List Nat} {b1 b2 b3 b4 b5 db sb N E2 lo hi X i N' N2 X' : Nat} {fd' fd2 : Int → Option Cn} (C : Cr S k s w0 w wr A c ov b1 b2 b3 b4 b5 db sb N E2 lo hi X i N' fd') (G : wr.grownBy w9 (some db)) (E9 : Cs w9 k.p b1 b2 b3 b4 b5 db N2 (.slice A ov.length c) fd2) (D2 : DoneC S s.nd ov fd2) (hn : N2 + (i + 1) ≤ N + (i + 1) * E2) (hl : w0.heap.size ≤ db) (hw : w0.heap.size ≤ w.heap.size) :
    Cr S k s w0 w ((w9.setCell ⟨w.heap.size + 1 + 1, 0, none⟩ (.int .u64 (ofN X').1)).setCell ⟨w.heap.size + 1 + 1, 1, none⟩ (.int .u64 (ofN X').2)) A c ov b1 b2 b3 b4 b5 db sb N E2 lo hi X' (i + 1) N2 fd2 := by
  have acc9 := heap_grown C.acc G (C.E.ne C.acc)
  have acc10 := heap_set (j := 0) (u := .int .u64 ((ofN X').1 : Int)) acc9
  have sz := C.g.size
  refine ⟨gb_set (gb_set (gb_trans C.g G) (by omega) _ _) (by omega) _ _, ?_, heap_far (heap_far (heap_grown C.res G (C.E.ne C.res)) (by simp; omega)) (by simp; omega), ?_, ?_, (E9.far acc9).far acc10, D2, hn⟩
  · exact ((C.b.grown G C.b.size (fun b e => by injection e with e; omega)).setCell (p := ⟨w.heap.size + 1 + 1, 0, none⟩) (by simp; omega) _).setCell (p := ⟨w.heap.size + 1 + 1, 1, none⟩) (by simp; omega) _
  · rw [heap_set acc10]; rfl
  · have t9 := heap_grown C.two G (C.E.ne C.two)
    have hne := heap_ne t9 acc9 (by decide)
    exact heap_far (heap_far t9 hne) hne
theorem fin_all {wr w5 w8 w9 : World} {db : Nat} (hg : wr.drew.grownBy w5 (some db)) (hb : Below w5.heap.size w5 w8) (hF : wr.heap.size ≤ w8.heap.size → Below wr.heap.size w8 w9) (hd : db < wr.heap.size) : wr.grownBy w9 (some db) ∧ w9.heap[db]? = w5.heap[db]? := by
  have h5 : wr.heap.size ≤ w5.heap.size := hg.size
  have h8 := hb.size
  have hF' := hF (by omega)
  refine ⟨⟨hF'.os.trans (hb.os.trans hg.os), hF'.tape.trans (hb.tape.trans hg.tape), hF'.output.trans (hb.output.trans hg.output), by have := hF'.size; omega, fun i hi hr => ?_⟩, ?_⟩
  · exact (hF'.block i hi).trans ((hb.block i (by omega)).trans (hg.block i hi hr))
  · exact (hF'.block db hd).trans (hb.block db (by omega))
end Go.Proofs.Ytgfjdkkfgclhjaa.Bd
/- Count: the walk, a node that was not met yet. -/
namespace Go.Proofs.Ytgfjdkkfgclhjaa.Bd
open Go.RowKit Go.Proofs.Ytgfjdkkfgclhjaa Go.Proofs.Ytgfjdkkfgclhjaa.Lx Go.Maps

/-- one half: its number and what it is -/
structure Half (S : Nat → Bool) (nd : List Nd) (ov : List Nat) (t E2 n g tg δ : Nat) (G : Env → Bool) : Prop where
  d : Den S nd g tg G
  lt : g < n
  h : t < tg
  e : nS S tg ≤ E2
  p : plc ov tg = plc ov t + 1 + δ
  q : δ < 128
theorem half_val {ov : List Nat} {tg : Nat} {G : Env → Bool} {δ : Nat} (h : cntL G (fromL ov tg) z0 * 2 ^ δ < 340282366920938463463374607431768211456) : ok2 (cntN ov tg G) ∧ val (cntN ov tg G) * 2 ^ δ < 340282366920938463463374607431768211456 ∧ ofN (val (cntN ov tg G) * 2 ^ δ) = ofN (cntL G (fromL ov tg) z0 * 2 ^ δ) := by
  have h1 : cntL G (fromL ov tg) z0 < 340282366920938463463374607431768211456 := Nat.lt_of_le_of_lt (Nat.le_mul_of_pos_right _ (Nat.two_pow_pos δ)) h
  unfold cntN
  rw [ofN_val]
  exact ⟨ofN_ok h1, h, rfl⟩
theorem ne_old {w : World} {g z : Nat} {o : Obj} (h : w.heap[g]? = some o) (hz : w.heap.size ≤ z) : g ≠ z := by
  have := lt_heap h
  omega
theorem ne_of_lt_le {a b c : Nat} (h : a < b) (h2 : b ≤ c) : a ≠ c := by omega
theorem wrap_small {x : Int} (h : -1000 ≤ x) (h2 : x ≤ 1000) : IntKind.i64.wrap x = x := IntWalk.i64_in _ (by omega)

def accX (X1 X2 i : Nat) : Nat := if i = 0 then 0 else if i = 1 then X1 else X1 + X2
theorem round_data {S : Nat → Bool} {k : Blk} {s : St} {w0 w wr : World} {A : Option Addr} {c : Nat} {ov : List Nat} {b1 b2 b3 b4 b5 db sb N m lo hi X1 X2 i n t tl th δ1 δ2 N' : Nat} {Fl Fh : Env → Bool} {fd' : Int → Option Cn} (h1 : Half S s.nd ov t m n lo tl δ1 Fl) (h2 : Half S s.nd ov t m n hi th δ2 Fh)
    (q1 : ok2 (cntN ov tl Fl) ∧ val (cntN ov tl Fl) * 2 ^ δ1 < 340282366920938463463374607431768211456 ∧ ofN (val (cntN ov tl Fl) * 2 ^ δ1) = ofN X1) (q2 : ok2 (cntN ov th Fh) ∧ val (cntN ov th Fh) * 2 ^ δ2 < 340282366920938463463374607431768211456 ∧ ofN (val (cntN ov th Fh) * 2 ^ δ2) = ofN X2) (hi2 : i < 2) (C : Cr S k s w0 w wr A c ov b1 b2 b3 b4 b5 db sb N (2 ^ m) lo hi (accX X1 X2 i) i N' fd') (hN : N + 2 * 2 ^ m ≤ 2000000000) :
    ∃ (g tg δ Y : Nat) (G : Env → Bool), Half S s.nd ov t m n g tg δ G ∧ (ok2 (cntN ov tg G) ∧ val (cntN ov tg G) * 2 ^ δ < 340282366920938463463374607431768211456 ∧ ofN (val (cntN ov tg G) * 2 ^ δ) = ofN Y) ∧ accX X1 X2 (i + 1) = accX X1 X2 i + Y ∧ wr.cell? ⟨sb, i, none⟩ = some (.int .i32 g) ∧ N' + 2 ^ nS S tg ≤ 2000000000 ∧ ∀ N'', N'' + 1 ≤ N' + 2 ^ nS S tg → N'' + (i + 1) ≤ N + (i + 1) * 2 ^ m := by
  have hn := C.n
  rcases (by omega : i = 0 ∨ i = 1) with rfl | rfl
  · have hp : 2 ^ nS S tl ≤ 2 ^ m := Nat.pow_le_pow_right (by omega) h1.e
    exact ⟨lo, tl, δ1, X1, Fl, h1, q1, by simp [accX], cell_heap C.two rfl, by omega, fun N'' h => by omega⟩
  · have hp : 2 ^ nS S th ≤ 2 ^ m := Nat.pow_le_pow_right (by omega) h2.e
    exact ⟨hi, th, δ2, X2, Fh, h2, q2, by simp [accX], cell_heap C.two rfl, by omega, fun N'' h => by omega⟩
set_option maxHeartbeats 8000000 in
set_option maxRecDepth 100000 in
theorem count_step (S : Nat → Bool) (k : Blk) (s : St) (w0 : World) (A : Option Addr) (c : Nat) (ov : List Nat) (b1 b2 b3 b4 b5 db n : Nat) (H : CntHyp S k s w0 A c ov) (hlow : w0.heap.size ≤ db) (IH : CntAt S k s w0 A c ov b1 b2 b3 b4 b5 db n) : CntAt S k s w0 A c ov b1 b2 b3 b4 b5 db (n + 1) := by
  intro f t F w N fd hfn d hB hE hD hN
  cases hf : fd f with
  | some cc => exact count_done S k s w0 A c ov b1 b2 b3 b4 b5 db H f t F w N fd d hE hD cc hf
  | none =>
  have hW := H.hA.wf
  have hnm := H.hA.nm
  have hfl := d.lt hW
  have hm := H.hm
  have h2 : 2 ≤ f := by
    rcases (by omega : f = 0 ∨ f = 1 ∨ 2 ≤ f) with rfl | rfl | h
    · have := hD.d0; rw [show ((0 : Nat) : Int) = 0 from rfl] at hf; rw [hf] at this; cases this
    · have := hD.d1; rw [show ((1 : Nat) : Int) = 1 from rfl] at hf; rw [hf] at this; cases this
    · exact h
  obtain ⟨lo, hi, tl, th, Fl, Fh, hr, r1, r2, r3, r4, r5, r6, r7, dl, dh, rfl⟩ := d.row h2
  have hto := H.hin t r7
  have hA := H.hA.below hB
  -- the room
  obtain ⟨m, hmS⟩ : ∃ m, m = nS S (t + 1) := ⟨_, rfl⟩
  have hst := nS_step S r6
  rw [r7, if_pos rfl, ← hmS, Nat.add_comm] at hst
  have ml := nS_le S (show t + 1 ≤ tl by omega)
  have mh := nS_le S (show t + 1 ≤ th by omega)
  rw [← hmS] at ml mh
  rw [hst] at hN ⊢
  have hE2 : 2 ^ (m + 1) = 2 * 2 ^ m := by rw [Nat.pow_succ]; omega
  have hE3 := Nat.one_le_two_pow (n := m)
  -- the halves' numbers
  have pl1 := plc_mono ov (show t + 1 ≤ tl by omega)
  have pl2 := plc_mono ov (show t + 1 ≤ th by omega)
  rw [plc_at H.hov hto] at pl1 pl2
  have ple1 := plc_le ov tl
  have ple2 := plc_le ov th
  have hn127 := H.hn
  have Hlo : Half S s.nd ov t m n lo tl (plc ov tl - plc ov t - 1) Fl := ⟨dl, by omega, r4, ml, by omega, by omega⟩
  have Hhi : Half S s.nd ov t m n hi th (plc ov th - plc ov t - 1) Fh := ⟨dh, by omega, r5, mh, by omega, by omega⟩
  have hcn := cnt_node H.hov hto r4 r5 (fun v hv ρ b => dl.free hv ρ b) (fun v hv ρ b => dh.free hv ρ b) z0
  have hclt := (cnt_lt (ov := ov) (fun ρ => if ρ t then Fh ρ else Fl ρ) t z0 H.hn).1
  have hc1 : cntL (fun ρ => if ρ t then Fh ρ else Fl ρ) (fromL ov t) z0 < 340282366920938463463374607431768211456 := Nat.lt_of_le_of_lt (Nat.le_mul_of_pos_right _ (Nat.two_pow_pos _)) hclt
  rw [hcn] at hc1
  generalize hδ1 : plc ov tl - plc ov t - 1 = δ1 at *
  generalize hδ2 : plc ov th - plc ov t - 1 = δ2 at *
  generalize hX1 : cntL Fl (fromL ov tl) z0 * 2 ^ δ1 = X1 at *
  generalize hX2 : cntL Fh (fromL ov th) z0 * 2 ^ δ2 = X2 at *
  have hcN : cntN ov t (fun ρ => if ρ t then Fh ρ else Fl ρ) = ofN (X1 + X2) := by unfold cntN; rw [hcn]
  have hall : ∀ t' F', Den S s.nd f t' F' → ofN (X1 + X2) = cntN ov t' F' := by
    intro t' F' d'
    obtain ⟨rfl, rfl⟩ := d.det d'
    exact hcN.symm
  rw [hcN]
  have HQ1 := hide (half_val (show cntL Fl (fromL ov tl) z0 * 2 ^ δ1 < _ from by rw [hX1]; omega))
  have HQ2 := hide (half_val (show cntL Fh (fromL ov th) z0 * 2 ^ δ2 < _ from by rw [hX2]; omega))
  rw [hX1] at HQ1
  rw [hX2] at HQ2
  -- memory
  obtain ⟨x0, x1, x2, hb3, hs3⟩ := three_boxes w #[.int .u64 0, .int .u64 0] #[.int .u64 0, .int .u64 0] #[.int .u64 0, .int .u64 0] 34 34 34
  have hb1 := bel_one w (.cells #[.int .u64 0, .int .u64 0] 34)
  have hE1 := hE.below hb1
  have k1 := cell_heap (j := 0) hE1.c1 rfl
  have lk := hE1.done.look keyed3 Try.underlying70 (zeroC _) (key3 f (by omega) (by omega))
  rw [hf] at lk
  simp only [Option.getD_none, Option.isSome_none] at lk
  unfold enc3 cEl at lk
  have lk2 : (Instr.lookup 70 (.map (some db)) (.int .i32 f) true).run Try.prog (w.alloc (.cells #[.int .u64 0, .int .u64 0] 34)) = .ok (.tuple #[.agg #[.int .u64 0, .int .u64 0], .bool false]) (w.alloc (.cells #[.int .u64 0, .int .u64 0] 34)) := lk
  clear lk
  have HB3 := hide (And.intro x0 (And.intro x2 (And.intro hb3 hs3)))
  have HE := hide hE
  have HD := hide hD
  have HB := hide hB
  have HH := hide H
  have HIH := hide IH
  have HLO := hide Hlo
  have HHI := hide Hhi
  have HALL := hide hall
  have HRW := hide hr
  have HA0 := hide (And.intro hto d)
  have hcl : 0 < 2 := by omega
  clear hE hD hB H IH Hlo Hhi hall hr d dl dh hA hE1 hb1 hb3 x0 x1 x2 hs3 hcn hclt hδ1 hδ2 hX1 hX2 hcN hf hmS hst
  go_enter Try.func32, Try.ntmps32
  go_wp2_with fail
  generalize ((w.alloc (.cells #[.int .u64 0, .int .u64 0] 34)).alloc (.cells #[.int .u64 0, .int .u64 0] 34)).alloc (.cells #[.int .u64 0, .int .u64 0] 34) = w3 at *
  have HC3 := hide (HE.out.below HB3.out.2.2.1)
  have HB30 := hide (HB.out.trans (HB3.out.2.2.1.mono HB.out.size))
  have q1 : (f : Int) < s.nd.length := by omega
  have HS : Hid (∀ w', Below w3.heap.size w3 w' → w'.cell? ⟨b2, 0, none⟩ = some (.pointer (some ⟨k.p, 0, none⟩)) ∧ w'.cell? ⟨k.p, 2, none⟩ = some (.slice (some ⟨k.g, 0, none⟩) s.nd.length k.c) ∧ w'.cell? ⟨k.g, f * 3 + 1, none⟩ = some (.int .i32 lo) ∧ w'.cell? ⟨k.g, f * 3 + 2, none⟩ = some (.int .i32 hi)) := by
    intro w' hb
    obtain ⟨_, _, Hp, _⟩ := HH.out.hA.below (HB30.out.trans (hb.mono HB30.out.size))
    exact ⟨cell_heap (heapB hb HC3.out.c2) rfl, Hp.c2, (Hp.node HRW.out).2.1, (Hp.node HRW.out).2.2⟩
  clear k1 lk2
  go_region_held3 (fun w' => w'.cell? ⟨b2, 0, none⟩ = some (.pointer (some ⟨k.p, 0, none⟩)) ∧ w'.cell? ⟨k.p, 2, none⟩ = some (.slice (some ⟨k.g, 0, none⟩) s.nd.length k.c) ∧ w'.cell? ⟨k.g, f * 3 + 1, none⟩ = some (.int .i32 lo) ∧ w'.cell? ⟨k.g, f * 3 + 2, none⟩ = some (.int .i32 hi))
    (first | exact HS.out _ (Below.drew (Below.refl _ w3)) | exact HS.out _ (Below.alloc (Below.drew (Below.refl _ w3)) (Nat.le_refl _) _) | exact HS.out _ (Below.drew (Below.alloc (Below.refl _ w3) (Nat.le_refl _) _)) | exact HS.out _ (Below.setCell (Below.alloc (Below.drew (Below.refl _ w3)) (Nat.le_refl _) _) (Nat.le_refl _) _) | exact HS.out _ (Below.setCell (Below.drew (Below.alloc (Below.refl _ w3) (Nat.le_refl _) _)) (Nat.le_refl _) _))
    (fail)
  all_goals (
    go_wp2_with fail
    have hcs := hide (show Cr S k s w0 w (w3.alloc (.cells #[.int .i32 lo, .int .i32 hi] 21)).drew A c ov b1 b2 b3 b4 b5 db w3.heap.size N (2 ^ m) lo hi 0 0 N fd from by
      have hb := (bel_one w3 (.cells #[.int .i32 lo, .int .i32 hi] 21)).drew
      have hb2 := below_wide HB3.out.2.2.1 hb
      exact ⟨below_grown hb2 _, HB.out.trans (hb2.mono HB.out.size), heapB hb HB3.out.1, heapB hb HB3.out.2.1, heap_new _ _, HE.out.below hb2, HD.out, by omega⟩)
    generalize (w3.alloc (.cells #[.int .i32 lo, .int .i32 hi] 21)).drew = w4 at *
    go_loopw [11, 12, 13, 14, 41] (fun _ _ _ _ j wr => ∃ (i N' : Nat) (fd' : Int → Option Cn), j = .int .i64 i ∧ i ≤ 2 ∧ Cr S k s w0 w wr A c ov b1 b2 b3 b4 b5 db w3.heap.size N (2 ^ m) lo hi (accX X1 X2 i) i N' fd') (fun _ _ _ _ j _ => 2 - (intOf j).toNat)
    case atStart => exact ⟨0, N, fd, rfl, by omega, hcs.out⟩
    case round =>
      obtain ⟨i, N', fd', rfl, hi2, hC⟩ := hrel
      rcases Nat.lt_or_ge i 2 with hlt | hge
      · have d1 : decide ((i : Int) < 2) = true := by simp; omega
        have d2 : ((i : Int) < 2) := by omega
        obtain ⟨g, tg, δ, Y, G, hH, hQ, hacc, hcell, hNN, hNx⟩ := round_data HLO.out HHI.out HQ1.out HQ2.out hlt hC (show N + 2 * 2 ^ m ≤ 2000000000 by omega)
        have HC := hide hC
        have HQ := hide hQ
        have HHA := hide hH
        have HNX := hide hNx
        have HAC := hide hacc
        have hB4 := hC.b.drew
        have hE4 := hC.E.below ((Below.refl wr.heap.size wr).drew)
        have hdbl : db < wr.heap.size := hC.E.done.lt
        have HWK := hide (fun (w' : World) (hb : Below wr.drew.heap.size wr.drew w') => HIH.out g tg G w' N' fd' hH.lt hH.d (hB4.trans (hb.mono hB4.size)) (hE4.below hb) hC.D hNN)
        have hk4 : wr.drew.cell? ⟨b3, 0, none⟩ = some (.func (.func 32) #[] #[.pointer (some ⟨b1, 0, none⟩), .pointer (some ⟨b2, 0, none⟩), .pointer (some ⟨b3, 0, none⟩), .pointer (some ⟨b4, 0, none⟩)]) ∧ wr.drew.cell? ⟨b4, 0, none⟩ = some (.func (.func 30) #[] #[.pointer (some ⟨b5, 0, none⟩), .pointer (some ⟨b2, 0, none⟩)]) := ⟨cell_heap hE4.c3 rfl, cell_heap hE4.c4 rfl⟩
        have HPL : Hid (∀ (x tx : Nat) (GG : Env → Bool) (w' : World), Den S s.nd x tx GG → Below w0.heap.size w0 w' → w'.cell? ⟨b5, 0, none⟩ = some (.slice A ov.length c) → w'.cell? ⟨b2, 0, none⟩ = some (.pointer (some ⟨k.p, 0, none⟩)) → Calls Try.prog 30 #[.int .i32 x, .pointer (some ⟨b5, 0, none⟩), .pointer (some ⟨b2, 0, none⟩)] w' fun e w'' => e = .returned (.int .i64 (plc ov tx)) ∧ Below w'.heap.size w' w'') := fun x tx GG w' dx hb h5 h3 => place_any S k s x tx GG A c ov b5 b2 w' (HH.out.hA.below hb) dx HH.out.hov HH.out.hall (fun h2 => HH.out.hin _ (dx.first (by
          obtain ⟨_, _, _, _, _, _, _, _, _, _, _, _, h, _⟩ := dx.row h2
          exact h))) (Src.below HH.out.hS hb) HH.out.hn h5 h3 HH.out.hm
        have hpg := hH.p
        have hδ := hH.q
        have hplt := plc_le ov t
        have hplg := plc_le ov tg
        generalize hpt : plc ov t = pt at *
        generalize hpgv : plc ov tg = pg at *
        have HPT := hide hpt
        have HPG := hide hpgv
        obtain ⟨δ', hδ'⟩ : ∃ δ' : Nat, δ' = δ + 1 := ⟨_, rfl⟩
        have hw1 : IntKind.i64.wrap ((pg : Int) - pt) = (δ' : Int) := by rw [wrap_small (by omega) (by omega)]; omega
        have hw2 : IntKind.i64.wrap ((δ' : Int) - 1) = (δ : Int) := by rw [wrap_small (by omega) (by omega)]; omega
        have HTM := hide (fun w' => times_any (cntN ov tg G) δ w' hQ.1 hQ.2.1 hδ)
        rw [hQ.2.2] at HTM
        unfold cEl at HTM
        have HK4 := hide (fun (w' : World) (hb : Below wr.drew.heap.size wr.drew w') => And.intro (cell_heap (j := 0) (hE4.below hb).c3 rfl) (cell_heap (j := 0) (hE4.below hb).c4 rfl))
        have HPLg := hide (fun w' hb h5 h3 => HPL.out g tg G w' HHA.out.d hb h5 h3)
        have HPLf := hide (fun w' hb h5 h3 => HPL.out f t _ w' HA0.out.2 hb h5 h3)
        rw [HPG.out] at HPLg
        rw [HPT.out] at HPLf
        have HB4 := hide hB4
        have HE4 := hide hE4
        clear hC hB4 hE4 hQ hNx hacc hpt hpgv hδ' hH HPL hpg
        go_wp2_with fail
        go_region_held3 (fun w' => w'.cell? ⟨b3, 0, none⟩ = some (.func (.func 32) #[] #[.pointer (some ⟨b1, 0, none⟩), .pointer (some ⟨b2, 0, none⟩), .pointer (some ⟨b3, 0, none⟩), .pointer (some ⟨b4, 0, none⟩)]) ∧ w'.cell? ⟨b4, 0, none⟩ = some (.func (.func 30) #[] #[.pointer (some ⟨b5, 0, none⟩), .pointer (some ⟨b2, 0, none⟩)]))
          (first | exact hk4 | exact HK4.out _ (bel_one _ _) | exact HK5.out _ (Below.refl _ _) | exact HK5.out _ (bel_one _ _) | exact HK6.out _ (Below.refl _ _) | exact HK6.out _ (bel_one _ _) | exact HK7.out _ (Below.refl _ _) | exact HK7.out _ (bel_one _ _) | exact HK8.out _ (Below.refl _ _) | exact HK8.out _ (bel_one _ _) | exact HK9.out _ | exact HK10.out _ _)
          (first
            | (go_at_call 32; first | ((with_reducible refine (HWK.out _ (Below.refl _ _)).mono ?_); intro e w5 hh; unfold CntOut at hh; obtain ⟨N2, fd2, he, hg2, hn2, hm2, hD2⟩ := hh; unfold cEl at he; subst he; have hgz := hg2; have hgw := hg2; have HZT5 := hide (fun (z : Nat) (h : Zed wr _ z) => h.grown hgz hdbl); have HE5 := hide (HE4.out.kept hgw hm2); have HB5 := hide (HB4.out.grown hgw HB4.out.size (fun b e => by injection e with e; omega)); have HK5 := hide (fun (w' : World) (hb : Below w5.heap.size w5 w') => And.intro (cell_heap (j := 0) (HE5.out.below hb).c3 rfl) (cell_heap (j := 0) (HE5.out.below hb).c4 rfl)); have HPg5 := hide (fun (w' : World) (hb : Below w5.heap.size w5 w') => HPLg.out w' (HB5.out.trans (hb.mono HB5.out.size)) (cell_heap (HE5.out.below hb).c5 rfl) (cell_heap (HE5.out.below hb).c2 rfl)); have HG2 := hide hgw; have HN2 := hide hn2; have HD2 := hide hD2; have HM2 := hide hm2; have hs5 := hgw.size; clear hg2 hgz hgw hn2 hm2 hD2) | ((with_reducible refine (HWK.out _ (bel_drew _ _)).mono ?_); intro e w5 hh; unfold CntOut at hh; obtain ⟨N2, fd2, he, hg2, hn2, hm2, hD2⟩ := hh; unfold cEl at he; subst he; have hgz := hg2; have hgw := gb_trans (below_grown (bel_drew wr _) _) hg2; have HZT5 := hide (fun (z : Nat) (h : Zed wr _ z) => h.grown hgz hdbl); have HE5 := hide (HE4.out.kept hgw hm2); have HB5 := hide (HB4.out.grown hgw HB4.out.size (fun b e => by injection e with e; omega)); have HK5 := hide (fun (w' : World) (hb : Below w5.heap.size w5 w') => And.intro (cell_heap (j := 0) (HE5.out.below hb).c3 rfl) (cell_heap (j := 0) (HE5.out.below hb).c4 rfl)); have HPg5 := hide (fun (w' : World) (hb : Below w5.heap.size w5 w') => HPLg.out w' (HB5.out.trans (hb.mono HB5.out.size)) (cell_heap (HE5.out.below hb).c5 rfl) (cell_heap (HE5.out.below hb).c2 rfl)); have HG2 := hide hgw; have HN2 := hide hn2; have HD2 := hide hD2; have HM2 := hide hm2; have hs5 := hgw.size; clear hg2 hgz hgw hn2 hm2 hD2))
            | (go_at_call 30; (first | (with_reducible refine (HPg5.out _ (Below.refl _ _)).mono ?_) | (with_reducible refine (HPg5.out _ (bel_one _ _)).mono ?_)); rintro e w6 ⟨rfl, hb6⟩; (first | have hq6 := pu0 (wr := wr) (w := w5) hb6 | have hq6 := pu1 (wr := wr) (w := w5) hb6); have hb56 := hq6.1; have HB6 := hide hb56; have HZT6 := hide hq6.2; have HE6 := hide (HE5.out.below hq6.1); have HK6 := hide (fun (w' : World) (hb : Below w6.heap.size w6 w') => And.intro (cell_heap (j := 0) (HE6.out.below hb).c3 rfl) (cell_heap (j := 0) (HE6.out.below hb).c4 rfl)); have HPf6 := hide (fun (w' : World) (hb : Below w6.heap.size w6 w') => HPLf.out w' (HB5.out.trans ((below_wide HB6.out hb).mono HB5.out.size)) (cell_heap (HE6.out.below hb).c5 rfl) (cell_heap (HE6.out.below hb).c2 rfl)); have hs6 := hq6.1.size; clear hb6 hq6 hb56)
            | (go_at_call 30; (first | (with_reducible refine (HPf6.out _ (Below.refl _ _)).mono ?_) | (with_reducible refine (HPf6.out _ (bel_one _ _)).mono ?_)); rintro e w7 ⟨rfl, hb7⟩; (first | have hq7 := pu0 (wr := wr) (w := w6) hb7 | have hq7 := pu1 (wr := wr) (w := w6) hb7); have hb57 := below_wide HB6.out hq7.1; have HB7 := hide hb57; have HZT7 := hide hq7.2; have HE7 := hide (HE6.out.below hq7.1); have HK7 := hide (fun (w' : World) (hb : Below w7.heap.size w7 w') => And.intro (cell_heap (j := 0) (HE7.out.below hb).c3 rfl) (cell_heap (j := 0) (HE7.out.below hb).c4 rfl)); have hs7 := hq7.1.size; clear hb7 hq7 hb57)
            | (go_at_call 33; (with_reducible refine (HTM.out _).mono ?_); rintro e w8 ⟨rfl, hb8⟩; (first | have hq8 := pu0 (wr := wr) (w := w7) hb8 | have hq8 := pu1 (wr := wr) (w := w7) hb8); have hb58 := below_wide HB7.out hq8.1; have HB8 := hide hb58; have HZT8 := hide hq8.2; have HE8 := hide (HE7.out.below hq8.1); have HK8 := hide (fun (w' : World) (hb : Below w8.heap.size w8 w') => And.intro (cell_heap (j := 0) (HE8.out.below hb).c3 rfl) (cell_heap (j := 0) (HE8.out.below hb).c4 rfl)); have hs8 := hq8.1.size; clear hb8 hq8 hb58; (first | (have hz8 := HZT8.out _ (HZT7.out _ (HZT6.out _ (HZT5.out _ (zed_new0 wr)))); have HZ8 := hide hz8; have kz0 := cell_heap (j := 0) hz8.1 rfl; have kz1 := fun (u : Value) => cell_heap (j := 1) (heap_set (j := 0) (u := u) hz8.1) rfl; have fz0 := frozen_heap (j := 0) hz8.1; have fz1 := fun (u : Value) => frozen_heap (j := 1) (heap_set (j := 0) (u := u) hz8.1); have l3 := ne_old HC.out.E.c3 hz8.2; have l4 := ne_old HC.out.E.c4 hz8.2; have HK9 := hide (fun (u : Value) => And.intro (cell_heap (j := 0) (heap_far (p := ⟨_, 0, none⟩) (u := u) HE8.out.c3 l3) rfl) (cell_heap (j := 0) (heap_far (p := ⟨_, 0, none⟩) (u := u) HE8.out.c4 l4) rfl)); have HK10 := hide (fun (u v : Value) => And.intro (cell_heap (j := 0) (heap_far (p := ⟨_, 1, none⟩) (u := v) (heap_far (p := ⟨_, 0, none⟩) (u := u) HE8.out.c3 l3) l3) rfl) (cell_heap (j := 0) (heap_far (p := ⟨_, 1, none⟩) (u := v) (heap_far (p := ⟨_, 0, none⟩) (u := u) HE8.out.c4 l4) l4) rfl)); clear hz8) | (have hz8 := HZT8.out _ (HZT7.out _ (HZT6.out _ (zed_new w5 (by simpa using hs5)))); have HZ8 := hide hz8; have kz0 := cell_heap (j := 0) hz8.1 rfl; have kz1 := fun (u : Value) => cell_heap (j := 1) (heap_set (j := 0) (u := u) hz8.1) rfl; have fz0 := frozen_heap (j := 0) hz8.1; have fz1 := fun (u : Value) => frozen_heap (j := 1) (heap_set (j := 0) (u := u) hz8.1); have l3 := ne_old HC.out.E.c3 hz8.2; have l4 := ne_old HC.out.E.c4 hz8.2; have HK9 := hide (fun (u : Value) => And.intro (cell_heap (j := 0) (heap_far (p := ⟨_, 0, none⟩) (u := u) HE8.out.c3 l3) rfl) (cell_heap (j := 0) (heap_far (p := ⟨_, 0, none⟩) (u := u) HE8.out.c4 l4) rfl)); have HK10 := hide (fun (u v : Value) => And.intro (cell_heap (j := 0) (heap_far (p := ⟨_, 1, none⟩) (u := v) (heap_far (p := ⟨_, 0, none⟩) (u := u) HE8.out.c3 l3) l3) rfl) (cell_heap (j := 0) (heap_far (p := ⟨_, 1, none⟩) (u := v) (heap_far (p := ⟨_, 0, none⟩) (u := u) HE8.out.c4 l4) l4) rfl)); clear hz8) | (have hz8 := HZT8.out _ (HZT7.out _ (zed_new w6 (by have := hs5; have := hs6; simp only [World.drew] at *; omega))); have HZ8 := hide hz8; have kz0 := cell_heap (j := 0) hz8.1 rfl; have kz1 := fun (u : Value) => cell_heap (j := 1) (heap_set (j := 0) (u := u) hz8.1) rfl; have fz0 := frozen_heap (j := 0) hz8.1; have fz1 := fun (u : Value) => frozen_heap (j := 1) (heap_set (j := 0) (u := u) hz8.1); have l3 := ne_old HC.out.E.c3 hz8.2; have l4 := ne_old HC.out.E.c4 hz8.2; have HK9 := hide (fun (u : Value) => And.intro (cell_heap (j := 0) (heap_far (p := ⟨_, 0, none⟩) (u := u) HE8.out.c3 l3) rfl) (cell_heap (j := 0) (heap_far (p := ⟨_, 0, none⟩) (u := u) HE8.out.c4 l4) rfl)); have HK10 := hide (fun (u v : Value) => And.intro (cell_heap (j := 0) (heap_far (p := ⟨_, 1, none⟩) (u := v) (heap_far (p := ⟨_, 0, none⟩) (u := u) HE8.out.c3 l3) l3) rfl) (cell_heap (j := 0) (heap_far (p := ⟨_, 1, none⟩) (u := v) (heap_far (p := ⟨_, 0, none⟩) (u := u) HE8.out.c4 l4) l4) rfl)); clear hz8) | (have hz8 := HZT8.out _ (zed_new w7 (by have := hs5; have := hs6; have := hs7; simp only [World.drew] at *; omega)); have HZ8 := hide hz8; have kz0 := cell_heap (j := 0) hz8.1 rfl; have kz1 := fun (u : Value) => cell_heap (j := 1) (heap_set (j := 0) (u := u) hz8.1) rfl; have fz0 := frozen_heap (j := 0) hz8.1; have fz1 := fun (u : Value) => frozen_heap (j := 1) (heap_set (j := 0) (u := u) hz8.1); have l3 := ne_old HC.out.E.c3 hz8.2; have l4 := ne_old HC.out.E.c4 hz8.2; have HK9 := hide (fun (u : Value) => And.intro (cell_heap (j := 0) (heap_far (p := ⟨_, 0, none⟩) (u := u) HE8.out.c3 l3) rfl) (cell_heap (j := 0) (heap_far (p := ⟨_, 0, none⟩) (u := u) HE8.out.c4 l4) rfl)); have HK10 := hide (fun (u v : Value) => And.intro (cell_heap (j := 0) (heap_far (p := ⟨_, 1, none⟩) (u := v) (heap_far (p := ⟨_, 0, none⟩) (u := u) HE8.out.c3 l3) l3) rfl) (cell_heap (j := 0) (heap_far (p := ⟨_, 1, none⟩) (u := v) (heap_far (p := ⟨_, 0, none⟩) (u := u) HE8.out.c4 l4) l4) rfl)); clear hz8) | skip)))
        all_goals (
          first
            | (have hfin := fin_set (z := wr.heap.size) (u := .int .u64 ((ofN Y).1 : Int)) (v := .int .u64 ((ofN Y).2 : Int)) HZ8.out; obtain ⟨y12, hF⟩ := hfin; have z0n := ne_of_lt_le (lt_heap HC.out.acc) HZ8.out.2; clear kz0 kz1 fz0 fz1; generalize (w8.setCell ⟨wr.heap.size, 0, none⟩ (.int .u64 ((ofN Y).1 : Int))).setCell ⟨wr.heap.size, 1, none⟩ (.int .u64 ((ofN Y).2 : Int)) = w9 at y12 hF ⊢)
            | (have hfin := fin_set (z := w5.heap.size) (u := .int .u64 ((ofN Y).1 : Int)) (v := .int .u64 ((ofN Y).2 : Int)) HZ8.out; obtain ⟨y12, hF⟩ := hfin; have z0n := ne_of_lt_le (lt_heap HC.out.acc) HZ8.out.2; clear kz0 kz1 fz0 fz1; generalize (w8.setCell ⟨w5.heap.size, 0, none⟩ (.int .u64 ((ofN Y).1 : Int))).setCell ⟨w5.heap.size, 1, none⟩ (.int .u64 ((ofN Y).2 : Int)) = w9 at y12 hF ⊢)
            | (have hfin := fin_set (z := w6.heap.size) (u := .int .u64 ((ofN Y).1 : Int)) (v := .int .u64 ((ofN Y).2 : Int)) HZ8.out; obtain ⟨y12, hF⟩ := hfin; have z0n := ne_of_lt_le (lt_heap HC.out.acc) HZ8.out.2; clear kz0 kz1 fz0 fz1; generalize (w8.setCell ⟨w6.heap.size, 0, none⟩ (.int .u64 ((ofN Y).1 : Int))).setCell ⟨w6.heap.size, 1, none⟩ (.int .u64 ((ofN Y).2 : Int)) = w9 at y12 hF ⊢)
            | (have hfin := fin_set (z := w7.heap.size) (u := .int .u64 ((ofN Y).1 : Int)) (v := .int .u64 ((ofN Y).2 : Int)) HZ8.out; obtain ⟨y12, hF⟩ := hfin; have z0n := ne_of_lt_le (lt_heap HC.out.acc) HZ8.out.2; clear kz0 kz1 fz0 fz1; generalize (w8.setCell ⟨w7.heap.size, 0, none⟩ (.int .u64 ((ofN Y).1 : Int))).setCell ⟨w7.heap.size, 1, none⟩ (.int .u64 ((ofN Y).2 : Int)) = w9 at y12 hF ⊢)
            | (have hfin := fin_new (wr := wr) (w8 := w8) (u := .int .u64 ((ofN Y).1 : Int)) (v := .int .u64 ((ofN Y).2 : Int)); obtain ⟨y12, hF⟩ := hfin; generalize w8.alloc (.cells #[.int .u64 ((ofN Y).1 : Int), .int .u64 ((ofN Y).2 : Int)] 34) = w9 at y12 hF ⊢)
          obtain ⟨hG9, hd9⟩ := fin_all HG2.out HB8.out hF hdbl
          have HE9 := hide (HC.out.E.kept hG9 (HM2.out.block hd9))
          have acc9 := heap_grown HC.out.acc hG9 (HC.out.E.ne HC.out.acc)
          have a0 := cell_heap (j := 0) acc9 rfl
          have a1 := cell_heap (j := 1) acc9 rfl
          have f0 := frozen_heap (j := 0) acc9
          have f1 : ∀ u, (w9.setCell ⟨w.heap.size + 1 + 1, 0, none⟩ u).frozen? ⟨w.heap.size + 1 + 1, 1, none⟩ = false := fun u => frozen_heap (heap_set acc9)
          have a2 : ∀ u, (w9.setCell ⟨w.heap.size + 1 + 1, 0, none⟩ u).cell? ⟨w.heap.size + 1 + 1, 1, none⟩ = some (.int .u64 ((ofN (accX X1 X2 i)).2 : Int)) := fun u => cell_heap (heap_set acc9) rfl
          have t0 := cell_heap (j := 0) y12 rfl
          have t1 := cell_heap (j := 1) y12 rfl
          have hXY : accX X1 X2 i + Y < 340282366920938463463374607431768211456 := by
            have := HAC.out
            have hle : accX X1 X2 (i + 1) ≤ X1 + X2 := by unfold accX; split <;> (try split) <;> omega
            omega
          obtain ⟨h1w, hh1, hh2, hh3⟩ := add_words hXY
          have hadd := fun w' => add_run (a := (ofN (accX X1 X2 i)).2) (b := (ofN Y).2) w'
          rw [hh3, ← HAC.out] at hadd
          rw [← HAC.out] at hh2
          have HCN := hide (cr_next (X' := accX X1 X2 (i + 1)) HC.out hG9 HE9.out HD2.out (HNX.out _ HN2.out) hlow HB.out.size)
          clear hG9 hd9 acc9 y12 hF hh3 hXY
          generalize ((ofN (accX X1 X2 i)).2 + (ofN Y).2) / 18446744073709551616 = cy at *
          go_wp2_with fail
          go_roundw
          case rel => exact ⟨i + 1, N2, fd2, by go_num, by omega, HCN.out⟩
          case measure => simp [intOf]; omega)
      · have e : i = 2 := by omega
        have d1 : decide ((i : Int) < 2) = false := by simp; omega
        have hC2 := hC
        rw [e, show accX X1 X2 2 = X1 + X2 from rfl] at hC2
        have HC2 := hide hC2
        have k1 := cell_heap (j := 0) hC2.E.c1 rfl
        have a0 := cell_heap (j := 0) hC2.acc rfl
        have a1 := cell_heap (j := 1) hC2.acc rfl
        have hNb : N' < maxLen := by have := hC2.n; unfold maxLen; omega
        have hk3 := key3 (f : Int) (by omega) (by omega)
        have hNn : N' + 1 + 1 ≤ N + 2 ^ (m + 1) := by have := hC2.n; omega
        have HNN := hide hNn
        have HE' := hide e
        clear hC hC2 hNn e
        go_wp2_with (at_mapUpdate; go_must (refine wpList_putC rfl (.tmp 75) (.tmp 76) (.tmp 77) rfl HC2.out.E.done keyed3 Try.underlying70 hNb enc3_inj rfl (f : Int) _ rfl hk3 (ofN (X1 + X2)) rfl ?_))
        intro w6 hmi hmt
        have hg6 := hmt.grown
        have acc6 := heap_grown HC2.out.acc hg6 (HC2.out.E.ne HC2.out.acc)
        have res6 := heap_grown HC2.out.res hg6 (HC2.out.E.ne HC2.out.res)
        have p0 := cell_heap (j := 0) acc6 rfl
        have p1 := cell_heap (j := 1) acc6 rfl
        have r0 := cell_heap (j := 0) res6 rfl
        have fz := frozen_heap (j := 0) res6
        have r1' : ∀ u, (w6.setCell ⟨w.heap.size, 0, none⟩ u).cell? ⟨w.heap.size, 1, none⟩ = some (.int .u64 0) := fun u => cell_heap (heap_set res6) rfl
        have fz' : ∀ u, (w6.setCell ⟨w.heap.size, 0, none⟩ u).frozen? ⟨w.heap.size, 1, none⟩ = false := fun u => frozen_heap (heap_set res6)
        have q0 := cell_heap (j := 0) (heap_set (j := 1) (u := .int .u64 ((ofN (X1 + X2)).2 : Int)) (heap_set (j := 0) (u := .int .u64 ((ofN (X1 + X2)).1 : Int)) res6)) rfl
        have q1' := cell_heap (j := 1) (heap_set (j := 1) (u := .int .u64 ((ofN (X1 + X2)).2 : Int)) (heap_set (j := 0) (u := .int .u64 ((ofN (X1 + X2)).1 : Int)) res6)) rfl
        have HX := hide (show CntOut S s.nd ov w db N (m + 1) (ofN (X1 + X2)) (.returned (.agg #[.int .u64 ((ofN (X1 + X2)).1 : Int), .int .u64 ((ofN (X1 + X2)).2 : Int)])) ((w6.setCell ⟨w.heap.size, 0, none⟩ (.int .u64 ((ofN (X1 + X2)).1 : Int))).setCell ⟨w.heap.size, 1, none⟩ (.int .u64 ((ofN (X1 + X2)).2 : Int))) from by
          obtain ⟨_, _, hs⟩ := MCnt.heap hmi
          have hne := Ne.symm (ne_kind res6 hs)
          exact ⟨N' + 1, _, rfl, gb_set (gb_set (gb_trans HC2.out.g hg6) (Nat.le_refl _) _ _) (Nat.le_refl _) _ _, HNN.out, (MCnt.setCell hmi hne _).setCell hne _, HC2.out.D.put h2 HALL.out⟩)
        have HQ01 := hide (And.intro q0 q1')
        clear hmi hmt hg6 acc6 res6 q0 q1'
        go_wp2_with fail
        generalize (w6.setCell ⟨w.heap.size, 0, none⟩ (.int .u64 ((ofN (X1 + X2)).1 : Int))).setCell ⟨w.heap.size, 1, none⟩ (.int .u64 ((ofN (X1 + X2)).2 : Int)) = w9 at *
        have q0 := HQ01.out.1
        have q1 := HQ01.out.2
        exact bodyPost_ret (v := .agg #[.int .u64 ((ofN (X1 + X2)).1 : Int), .int .u64 ((ofN (X1 + X2)).2 : Int)]) (by simp [results, Try.results32, go_sem, q0, q1]) rfl HX.out)
theorem count_all (S : Nat → Bool) (k : Blk) (s : St) (w0 : World) (A : Option Addr) (c : Nat) (ov : List Nat) (b1 b2 b3 b4 b5 db : Nat) (H : CntHyp S k s w0 A c ov) (hlow : w0.heap.size ≤ db) : ∀ n, CntAt S k s w0 A c ov b1 b2 b3 b4 b5 db n := by
  intro n
  induction n with
  | zero => intro f t F w N fd h; omega
  | succ n ih => exact count_step S k s w0 A c ov b1 b2 b3 b4 b5 db n H hlow ih
end Go.Proofs.Ytgfjdkkfgclhjaa.Bd
/- Count, whole. -/
namespace Go.Proofs.Ytgfjdkkfgclhjaa.Bd
open Go.RowKit Go.Proofs.Ytgfjdkkfgclhjaa Go.Proofs.Ytgfjdkkfgclhjaa.Lx Go.Maps

def fd0C : Int → Option Cn := fun x => if x = 1 then some (0, 1) else if x = 0 then some (0, 0) else none
theorem doneC_start {S : Nat → Bool} {nd : List Nd} {ov : List Nat} (hall : ∀ x ∈ ov, x < 256) : DoneC S nd ov fd0C := by
  refine ⟨rfl, rfl, fun i c hc t F d => ?_⟩
  unfold fd0C at hc
  split at hc
  · cases hc
    obtain rfl : i = 1 := by omega
    obtain ⟨rfl, rfl⟩ := d.det .one
    have e : fromL ov 256 = [] := by
      unfold fromL
      rw [List.filter_eq_nil_iff]
      intro x hx
      have := hall x hx
      simp; omega
    unfold cntN
    rw [e]
    rfl
  · split at hc
    · cases hc
      obtain rfl : i = 0 := by omega
      obtain ⟨rfl, rfl⟩ := d.det .zero
      unfold cntN
      rw [cntL_none]
      rfl
    · cases hc
theorem rises_true {S : Nat → Bool} {s : St} (hW : WF s.nd) {f t : Nat} {F : Env → Bool} (d : Den S s.nd f t F) {ov : List Nat} (hov : Rise ov) (hall : ∀ x ∈ ov, x < s.vs) (hin : ∀ x, S x = true → x ∈ ov) {w w' : World} {e : Ending} (h : RisesOut s.vs s.nd f (encL ov) w e w') : e = .returned (.bool true) ∧ Below w.heap.size w w' := by
  rcases h with ⟨hn, _⟩ | ⟨_, he, hb⟩
  · exact absurd (fun j x y hj hx hy => by
      unfold encL at hx hy
      rw [List.getElem?_map] at hx hy
      obtain ⟨a, ha, rfl⟩ := Option.map_eq_some_iff.1 hx
      obtain ⟨b, hb, rfl⟩ := Option.map_eq_some_iff.1 hy
      have h1 := lt_of_some ha
      have h2 := lt_of_some hb
      have := List.pairwise_iff_getElem.1 hov j (j + 1) h1 h2 (by omega)
      rw [List.getElem?_eq_getElem h1] at ha
      rw [List.getElem?_eq_getElem h2] at hb
      cases ha; cases hb
      omega) hn
  · refine ⟨?_, hb⟩
    rw [he, knownB_of hall]
    have : (supL s.nd f).any (notIn (encL ov)) = false := by
      rw [List.any_eq_false]
      intro x hx
      obtain ⟨v, rfl, hv⟩ := (supL_mem hW d x).1 hx
      have hm := hin v (d.hangs_in hv).2.2
      unfold notIn
      simp only [Bool.not_eq_true', Bool.not_eq_false', Bool.not_eq_eq_eq_not, Bool.not_true, List.any_eq_true, ne_eq]
      intro hc
      rw [List.any_eq_false] at hc
      exact hc (v : Int) (List.mem_map.2 ⟨v, hm, rfl⟩) (by simp)
    rw [this]
    rfl
/-- what the call lays before the walk -/
theorem cs_start {w w2 w3 w4 : World} {p : Nat} {sl : Value} (hb : Below w.heap.size w w2) (x0 : w2.heap[w.heap.size]? = some (.cells #[.pointer (some ⟨p, 0, none⟩)] 24 (0, 0))) (x1 : w2.heap[w.heap.size + 1]? = some (.cells #[sl] 37 (0, 0)))
    (ht1 : World.mapTurned ((w2.alloc (.cells #[.func (.func 30) #[] #[.pointer (some ⟨w.heap.size + 1, 0, none⟩), .pointer (some ⟨w.heap.size, 0, none⟩)]] 69)).alloc (.map #[] 0)) w3 (w2.heap.size + 1)) (ht2 : w3.mapTurned w4 (w2.heap.size + 1)) (hm : MCnt Try.prog w4 21 (w2.heap.size + 1) 2 enc3 fd0C) :
    Cs ((w4.alloc (.cells #[.map (some (w2.heap.size + 1))] 70)).alloc (.cells #[.func (.func 32) #[] #[.pointer (some ⟨w4.heap.size, 0, none⟩), .pointer (some ⟨w.heap.size, 0, none⟩), .pointer (some ⟨w4.heap.size + 1, 0, none⟩), .pointer (some ⟨w2.heap.size, 0, none⟩)]] 71))
      p w4.heap.size w.heap.size (w4.heap.size + 1) w2.heap.size (w.heap.size + 1) (w2.heap.size + 1) 2 sl fd0C ∧
    Below w2.heap.size w2 ((w4.alloc (.cells #[.map (some (w2.heap.size + 1))] 70)).alloc (.cells #[.func (.func 32) #[] #[.pointer (some ⟨w4.heap.size, 0, none⟩), .pointer (some ⟨w.heap.size, 0, none⟩), .pointer (some ⟨w4.heap.size + 1, 0, none⟩), .pointer (some ⟨w2.heap.size, 0, none⟩)]] 71)) := by
  have hg := (ht1.trans ht2).grown
  have hs := hg.size
  simp only [World.size_alloc] at hs
  have l0 := lt_heap x0
  have l1 := lt_heap x1
  have c4 : w4.heap[w2.heap.size]? = some (.cells #[.func (.func 30) #[] #[.pointer (some ⟨w.heap.size + 1, 0, none⟩), .pointer (some ⟨w.heap.size, 0, none⟩)]] 69 (0, 0)) := heap_grown (heap_old (heap_new _ _)) hg (opt_ne (by omega))
  have y0 := heap_grown (heap_old (heap_old x0)) hg (opt_ne (by omega))
  have y1 := heap_grown (heap_old (heap_old x1)) hg (opt_ne (by omega))
  have hb4 : Below w2.heap.size w2 w4 := (((Below.refl _ w2).alloc (Nat.le_refl _) _).alloc (by simp) _).grown hg (by simp; omega) (fun b e => by injection e with e; omega)
  refine ⟨⟨heap_old (heap_new _ _), heap_old (heap_old y0), ?_, heap_old (heap_old c4), heap_old (heap_old y1), ?_⟩, (hb4.alloc (by omega) _).alloc (by simp; omega) _⟩
  · have := heap_new (w4.alloc (.cells #[.map (some (w2.heap.size + 1))] 70)) (.cells #[.func (.func 32) #[] #[.pointer (some ⟨w4.heap.size, 0, none⟩), .pointer (some ⟨w.heap.size, 0, none⟩), .pointer (some ⟨w4.heap.size + 1, 0, none⟩), .pointer (some ⟨w2.heap.size, 0, none⟩)]] 71)
    rw [show (w4.alloc (.cells #[.map (some (w2.heap.size + 1))] 70)).heap.size = w4.heap.size + 1 by simp] at this
    exact this
  · exact (hm.kept (World.grownBy_alloc _ _ none) (by simp)).kept (World.grownBy_alloc _ _ none) (by simp)
theorem count_total {S : Nat → Bool} {nd : List Nd} {f t : Nat} {F : Env → Bool} (d : Den S nd f t F) {ov : List Nat} (hov : Rise ov) (hn : ov.length ≤ 127) : ok2 (cntN ov t F) ∧ val (cntN ov t F) * 2 ^ plc ov t < 340282366920938463463374607431768211456 ∧ ofN (val (cntN ov t F) * 2 ^ plc ov t) = ofN (cntL F ov z0) := by
  have h1 := (cnt_lt (ov := ov) F t z0 hn).1
  obtain ⟨a, b, c⟩ := half_val h1
  refine ⟨a, b, c.trans ?_⟩
  have := cnt_skip hov (Nat.zero_le t) (fun v hv ρ b => d.free hv ρ b) z0
  rw [fromL_zero, plc_zero, Nat.sub_zero] at this
  rw [this]
set_option maxHeartbeats 4000000 in
set_option maxRecDepth 100000 in
theorem Count_any (S : Nat → Bool) (k : Blk) (s : St) (f t : Nat) (F : Env → Bool) (A : Option Addr) (c : Nat) (ov : List Nat) (w : World) (hA : Ar w k s) (hv : s.vs ≤ 256) (g1 : s.gi f = true) (d : Den S s.nd f t F) (hov : Rise ov) (hall : ∀ x ∈ ov, x < s.vs) (hin : ∀ x, S x = true → x ∈ ov) (hS : Src w A ov.length c 1 ((encL ov).map encI)) (hn : ov.length ≤ 127) (hm : s.m + 2 ≤ 1000000000) (hp : 2 + 2 ^ nS S t ≤ 2000000000) :
    Calls Try.prog 11 #[.pointer (some ⟨k.p, 0, none⟩), .int .i64 f, .slice A ov.length c] w fun e w' => e = .returned (.tuple #[cEl (ofN (cntL F ov z0)), .int .i64 0]) ∧ Below w.heap.size w w' := by
  have hW := hA.wf
  have hnm := hA.nm
  have hfl := d.lt hW
  obtain ⟨x0, x1, x2, hb3, hs3⟩ := three_boxes w #[.pointer (some ⟨k.p, 0, none⟩)] #[.slice A ov.length c] #[.int .u64 0, .int .u64 0] 24 37 34
  obtain ⟨W, hWd⟩ : ∃ W, W = (((w.alloc (.cells #[.pointer (some ⟨k.p, 0, none⟩)] 24)).alloc (.cells #[.slice A ov.length c] 37)).alloc (.cells #[.int .u64 0, .int .u64 0] 34)) := ⟨_, rfl⟩
  rw [← hWd] at x0 x1 x2 hb3 hs3
  have hbl := below_wide hb3 (bel_one W (.cells #[.int .i64 f] 3))
  have HC := hide (check_any k s [(f : Int)] W.heap.size _ (hA.below hbl) (cells1 W f) (by simp; omega) (by simp))
  rw [show [(f : Int)].length = 1 from rfl, gvn_all (s := s) (l := [(f : Int)]) (by simp [g1]), hs3] at HC
  have HRI := hide (rises_any k s f A c (encL ov) (W.alloc (.cells #[.int .i64 f] 3)) (hA.below hbl) g1 hfl (by rw [encL_len]; exact hS.below hbl) (by rw [encL_len]; omega) hm)
  rw [encL_len] at HRI
  have y0 : (W.alloc (.cells #[.int .i64 f] 3)).cell? ⟨w.heap.size, 0, none⟩ = some (.pointer (some ⟨k.p, 0, none⟩)) := cell_heap (heap_old x0) rfl
  have y1 : (W.alloc (.cells #[.int .i64 f] 3)).cell? ⟨w.heap.size + 1, 0, none⟩ = some (.slice A ov.length c) := cell_heap (heap_old x1) rfl
  have y9 : W.cell? ⟨w.heap.size, 0, none⟩ = some (.pointer (some ⟨k.p, 0, none⟩)) := cell_heap x0 rfl
  have HX := hide (And.intro (heap_old (p := .cells #[.int .i64 f] 3) x0) (And.intro (heap_old (p := .cells #[.int .i64 f] 3) x1) (heap_old (p := .cells #[.int .i64 f] 3) x2)))
  have HRT := hide (fun (e : Ending) (w' : World) => rises_true (w := (W.alloc (.cells #[.int .i64 f] 3))) (w' := w') (e := e) hW d hov hall hin)
  have HBL := hide hbl
  have HH : Hid (CntHyp S k s w A c ov) := hide ⟨hA, hov, fun x hx => by have := hall x hx; omega, hin, hS, hn, hm⟩
  have HD := hide d
  have HT := hide (count_total d hov hn)
  have hmm := @run_makeMap Try.prog
  have hk0 := key3 0 (by omega) (by omega)
  have hk1 := key3 1 (by omega) (by omega)
  have d127 : decide ((127 : Int) < ov.length) = false := by simp; omega
  have hwr : IntKind.i32.wrap (f : Int) = f := wrap3 (by omega) (by omega)
  clear hA d hov hall hin hS hbl hb3 hs3 x0 x1 x2 g1
  subst hWd
  go_enter Try.func11, Try.ntmps11
  go_wp2_with fail
  refine HC.out.mono ?_
  rintro e w1 ⟨rfl, rfl⟩
  go_wp2_with fail
  refine HRI.out.mono ?_
  intro e w2 hh
  obtain ⟨rfl, hb⟩ := HRT.out e w2 hh
  have z0 := heapB hb HX.out.1
  have z1 := heapB hb HX.out.2.1
  have z2 := heapB hb HX.out.2.2
  have HZ := hide (And.intro z0 (And.intro z1 z2))
  have HB2 := hide (below_wide HBL.out hb)
  have v0 := cell_heap (j := 0) z0 rfl
  have v1 := cell_heap (j := 0) z1 rfl
  have HMS := hide (MCnt.made (P := Try.prog) (w2.alloc (.cells #[.func (.func 30) #[] #[.pointer (some ⟨w.heap.size + 1, 0, none⟩), .pointer (some ⟨w.heap.size, 0, none⟩)]] 69)) 21 enc3)
  rw [show (w2.alloc (.cells #[.func (.func 30) #[] #[.pointer (some ⟨w.heap.size + 1, 0, none⟩), .pointer (some ⟨w.heap.size, 0, none⟩)]] 69)).heap.size = w2.heap.size + 1 by simp] at HMS
  clear hh hb z0 z1 z2 y0 y1 y9 HC HRI HRT HX
  go_wp2_with (refine wpList_insC rfl (.tmp 32) _ _ rfl HMS.out keyed3 Try.underlying70 (by unfold maxLen; omega) enc3_inj rfl (0 : Int) _ rfl hk0 (0, 0) rfl ?_)
  intro w3 hm1 ht1
  have HM1 := hide hm1
  have HT1 := hide ht1
  clear hm1 ht1
  go_wp2_with (refine wpList_insC rfl (.tmp 32) _ _ rfl HM1.out keyed3 Try.underlying70 (by unfold maxLen; omega) enc3_inj rfl (1 : Int) _ rfl hk1 (0, 1) rfl ?_)
  intro w4 hm2 ht2
  have HM2 := hide hm2
  have HT2 := hide ht2
  clear hm2 ht2
  have HV := hide (cs_start HB2.out HZ.out.1 HZ.out.2.1 HT1.out HT2.out HM2.out)
  go_wp2_with fail
  have HR2 := hide (heapB HV.out.2 HZ.out.2.2)
  have HC5 := hide HV.out.1
  have HB5 := hide (below_wide HB2.out HV.out.2)
  clear HV HM1 HM2 HT1 HT2 HMS
  generalize ((w4.alloc (.cells #[.map (some (w2.heap.size + 1))] 70)).alloc (.cells #[.func (.func 32) #[] #[.pointer (some ⟨w4.heap.size, 0, none⟩), .pointer (some ⟨w.heap.size, 0, none⟩), .pointer (some ⟨w4.heap.size + 1, 0, none⟩), .pointer (some ⟨w2.heap.size, 0, none⟩)]] 71)) = w5 at *
  have s2 := HB2.out.size
  have HE5 := hide (HC5.out.below ((Below.refl w5.heap.size w5).drew))
  have HWK := hide (count_all S k s w A c ov w4.heap.size w.heap.size (w4.heap.size + 1) w2.heap.size (w.heap.size + 1) (w2.heap.size + 1) HH.out (by omega) (f + 1) f t F w5.drew 2 fd0C (by omega) HD.out HB5.out.drew HE5.out (doneC_start HH.out.hall) hp)
  have HTM := hide (fun w' => times_any (cntN ov t F) (plc ov t) w' HT.out.1 HT.out.2.1 (by have := plc_le ov t; omega))
  rw [HT.out.2.2] at HTM
  have HPL := hide (fun (w' : World) (hb : Below w.heap.size w w') (h5 : w'.cell? ⟨w.heap.size + 1, 0, none⟩ = some (.slice A ov.length c)) (h3 : w'.cell? ⟨w.heap.size, 0, none⟩ = some (.pointer (some ⟨k.p, 0, none⟩))) => place_any S k s f t F A c ov (w.heap.size + 1) w.heap.size w' (HH.out.hA.below hb) HD.out HH.out.hov HH.out.hall (fun h2 => HH.out.hin _ (by
    obtain ⟨_, _, _, _, _, _, _, _, _, _, _, _, _, h, _⟩ := HD.out.row h2
    exact h)) (Src.below HH.out.hS hb) HH.out.hn h5 h3 HH.out.hm)
  generalize hX : ofN (cntL F ov z0) = X at *
  generalize hpt : plc ov t = pt at *
  unfold cEl at HTM
  have k5 : w5.drew.cell? ⟨w4.heap.size + 1, 0, none⟩ = some (.func (.func 32) #[] #[.pointer (some ⟨w4.heap.size, 0, none⟩), .pointer (some ⟨w.heap.size, 0, none⟩), .pointer (some ⟨w4.heap.size + 1, 0, none⟩), .pointer (some ⟨w2.heap.size, 0, none⟩)]) ∧ w5.drew.cell? ⟨w2.heap.size, 0, none⟩ = some (.func (.func 30) #[] #[.pointer (some ⟨w.heap.size + 1, 0, none⟩), .pointer (some ⟨w.heap.size, 0, none⟩)]) := ⟨cell_heap HE5.out.c3 rfl, cell_heap HE5.out.c4 rfl⟩
  have HPT := hide hpt
  have HXX := hide hX
  have HR5 := hide (show w5.drew.heap[w.heap.size + 1 + 1]? = _ from HR2.out)
  clear v0 v1 hX hpt
  go_region_held3 (fun w' => w'.cell? ⟨w4.heap.size + 1, 0, none⟩ = some (.func (.func 32) #[] #[.pointer (some ⟨w4.heap.size, 0, none⟩), .pointer (some ⟨w.heap.size, 0, none⟩), .pointer (some ⟨w4.heap.size + 1, 0, none⟩), .pointer (some ⟨w2.heap.size, 0, none⟩)]) ∧ w'.cell? ⟨w2.heap.size, 0, none⟩ = some (.func (.func 30) #[] #[.pointer (some ⟨w.heap.size + 1, 0, none⟩), .pointer (some ⟨w.heap.size, 0, none⟩)]))
    (first | exact k5 | exact k6 | exact k7 | exact k8 | exact k9 _ | exact k10 _ _)
    (first
      | (go_at_call 32; (with_reducible refine HWK.out.mono ?_); intro e w6 hh; unfold CntOut at hh; obtain ⟨N2, fd2, he, hg2, hn2, hm2, hD2⟩ := hh; unfold cEl at he; subst he; have HE6 := hide (HE5.out.kept hg2 hm2); have HB6 := hide (HB5.out.drew.grown hg2 HB5.out.drew.size (fun b e => by injection e with e; omega)); have HR6 := hide (heap_grown HR5.out hg2 (HE5.out.ne HR5.out)); have k6 := And.intro (cell_heap (j := 0) HE6.out.c3 rfl) (cell_heap (j := 0) HE6.out.c4 rfl); clear hg2 hn2 hm2 hD2)
      | (go_at_call 30; (with_reducible refine (HPL.out _ HB6.out (cell_heap HE6.out.c5 rfl) (cell_heap HE6.out.c2 rfl)).mono ?_); rintro e w7 ⟨rfl, hb7⟩; have HB7 := hide (HB6.out.trans (hb7.mono HB6.out.size)); have HE7 := hide (HE6.out.below hb7); have HR7 := hide (heapB hb7 HR6.out); have k7 := And.intro (cell_heap (j := 0) HE7.out.c3 rfl) (cell_heap (j := 0) HE7.out.c4 rfl); clear hb7)
      | (go_at_call 33; (with_reducible refine (HTM.out _).mono ?_); rintro e w8 ⟨rfl, hb8⟩; have HB8 := hide (HB7.out.trans (hb8.mono HB7.out.size)); have HE8 := hide (HE7.out.below hb8); have hr8 := heapB hb8 HR7.out; have HR8 := hide hr8; have k8 := And.intro (cell_heap (j := 0) HE8.out.c3 rfl) (cell_heap (j := 0) HE8.out.c4 rfl); have r0 := cell_heap (j := 0) hr8 rfl; have rf0 := frozen_heap (j := 0) hr8; have r1 := fun (u : Value) => cell_heap (j := 1) (heap_set (j := 0) (u := u) hr8) rfl; have rf1 := fun (u : Value) => frozen_heap (j := 1) (heap_set (j := 0) (u := u) hr8); have k9 := fun (u : Value) => And.intro (cell_heap (j := 0) (HE8.out.far (j := 0) (u := u) hr8).c3 rfl) (cell_heap (j := 0) (HE8.out.far (j := 0) (u := u) hr8).c4 rfl); have k10 := fun (u v : Value) => And.intro (cell_heap (j := 0) ((HE8.out.far (j := 0) (u := u) hr8).far (j := 1) (u := v) (heap_set hr8)).c3 rfl) (cell_heap (j := 0) ((HE8.out.far (j := 0) (u := u) hr8).far (j := 1) (u := v) (heap_set hr8)).c4 rfl); clear hb8 hr8))
  all_goals (
    have q0h := hide (cell_heap (j := 0) (heap_set (j := 1) (u := .int .u64 (X.2 : Int)) (heap_set (j := 0) (u := .int .u64 (X.1 : Int)) HR8.out)) rfl)
    have q1h := hide (cell_heap (j := 1) (heap_set (j := 1) (u := .int .u64 (X.2 : Int)) (heap_set (j := 0) (u := .int .u64 (X.1 : Int)) HR8.out)) rfl)
    have HBF := hide ((HB8.out.setCell (p := ⟨w.heap.size + 1 + 1, 0, none⟩) (by simp; omega) (.int .u64 (X.1 : Int))).setCell (p := ⟨w.heap.size + 1 + 1, 1, none⟩) (by simp; omega) (.int .u64 (X.2 : Int)))
    clear k8 k9 k10 r0 rf0 r1 rf1
    go_wp2_with fail
    generalize (w8.setCell ⟨w.heap.size + 1 + 1, 0, none⟩ (.int .u64 (X.1 : Int))).setCell ⟨w.heap.size + 1 + 1, 1, none⟩ (.int .u64 (X.2 : Int)) = w9 at *
    have q0 := q0h.out
    have q1 := q1h.out
    exact bodyPost_ret (v := .tuple #[.agg #[.int .u64 (X.1 : Int), .int .u64 (X.2 : Int)], .int .i64 0]) (by simp [results, Try.results11, go_sem, q0, q1]) rfl ⟨by rw [HXX.out]; rfl, HBF.out⟩)
end Go.Proofs.Ytgfjdkkfgclhjaa.Bd
/- What a caller of an arena holds: nodes that are functions; each call said of functions, where there is room. -/
namespace Go.Proofs.Ytgfjdkkfgclhjaa.Bd
open Go.RowKit Go.Proofs.Ytgfjdkkfgclhjaa Go.Proofs.Ytgfjdkkfgclhjaa.Lx Go.Maps

/-- a node that was given out, as a function over variables of S -/
def Nod (s : St) (f : Nat) (S : Nat → Bool) (F : Env → Bool) : Prop := s.gi f = true ∧ OkSem S F s.nd f
structure Live (w : World) (k : Blk) (s : St) : Prop where
  ar : Ar w k s
  ad : Adm s
  g0 : s.gi 0 = true
  g1 : s.gi 1 = true
structure Ext (s s' : St) : Prop where
  vs : s'.vs = s.vs
  ms : s'.ms = s.ms
  gi : ∀ x, s.gi x = true → s'.gi x = true
  nd : ∃ ex, s'.nd = s.nd ++ ex
theorem Ext.refl (s : St) : Ext s s := ⟨rfl, rfl, fun _ h => h, ⟨[], by simp⟩⟩
theorem Ext.trans {a b c : St} (h : Ext a b) (h2 : Ext b c) : Ext a c := by
  obtain ⟨e1, h1⟩ := h.nd
  obtain ⟨e2, h2'⟩ := h2.nd
  exact ⟨h2.vs.trans h.vs, h2.ms.trans h.ms, fun x hx => h2.gi x (h.gi x hx), ⟨e1 ++ e2, by rw [h2', h1, List.append_assoc]⟩⟩
theorem Nod.ext {s s' : St} {f : Nat} {S : Nat → Bool} {F : Env → Bool} (h : Nod s f S F) (E : Ext s s') : Nod s' f S F := by
  obtain ⟨g, t, d⟩ := h
  obtain ⟨ex, e⟩ := E.nd
  exact ⟨E.gi _ g, t, by rw [e]; exact d.append⟩
theorem Nod.mono {s : St} {f : Nat} {S S' : Nat → Bool} {F : Env → Bool} (h : Nod s f S F) (hs : ∀ x, S x = true → S' x = true) : Nod s f S' F := by
  obtain ⟨g, t, d⟩ := h
  exact ⟨g, t, d.mono hs⟩
theorem Live.below {w w' : World} {k : Blk} {s : St} (h : Live w k s) (hb : Below w.heap.size w w') : Live w' k s := ⟨h.ar.below hb, h.ad, h.g0, h.g1⟩
theorem Live.no {w : World} {k : Blk} {s : St} (h : Live w k s) (S : Nat → Bool) : Nod s 0 S (fun _ => false) := ⟨h.g0, 256, .zero⟩
theorem Live.yes {w : World} {k : Blk} {s : St} (h : Live w k s) (S : Nat → Bool) : Nod s 1 S (fun _ => true) := ⟨h.g1, 256, .one⟩
/-- two nodes of one function are one; and one is one function's alone -/
theorem Nod.eq {w : World} {k : Blk} {s : St} (h : Live w k s) {f g : Nat} {S S' : Nat → Bool} {F : Env → Bool} (a : Nod s f S F) (b : Nod s g S' F) : f = g := by
  obtain ⟨_, _, d⟩ := a
  obtain ⟨_, _, d'⟩ := b
  exact d.eq h.ar.wf.once d'
theorem Nod.fn {s : St} {f : Nat} {S S' : Nat → Bool} {F G : Env → Bool} (a : Nod s f S F) (b : Nod s f S' G) : F = G := by
  obtain ⟨_, _, d⟩ := a
  obtain ⟨_, _, d'⟩ := b
  exact (d.det2 d').2
/-- an answer that is a node -/
def SemOut (k : Blk) (s : St) (w : World) (R B : Nat) (S : Nat → Bool) (G : Env → Bool) (e : Ending) (w' : World) : Prop :=
  ∃ (k' : Blk) (s' : St) (r : Nat), e = .returned (.tuple #[.int .i64 (r : Nat), .int .i64 0]) ∧ Live w' k' s' ∧ Turn k k' w w' ∧ Ext s s' ∧ s'.m + 2 ≤ s.m + R ∧ s'.hn ≤ s.hn + B ∧ s'.gn = s.gn + 1 ∧ Nod s' r S G
theorem sem_of {k : Blk} {s : St} {w w' : World} {R n : Nat} {S : Nat → Bool} {G : Env → Bool} {e : Ending} (h : ApiOut k s w R (OkSem S G) e w') (L : Live w k s) (hgn : s.gn + 1 ≤ 900000000) (hn : nS S 0 ≤ n) (hB : s.hn + 2 ^ (n - 3) + 255 ≤ s.ms) : SemOut k s w R (2 ^ (n - 3) + 255) S G e w' := by
  obtain ⟨k', s1, r, U, hm, ⟨t, d⟩, T, hw, hr, h⟩ := h
  have hf := fresh_le hw d
  have hp : 2 ^ (nS S t - 3) ≤ 2 ^ (n - 3) := Nat.pow_le_pow_right (by omega) (by have := min_le S t; omega)
  rcases h with ⟨h1, _⟩ | ⟨h1, he, hA⟩
  · omega
  · have had := L.ad
    have ugi := U.gi
    refine ⟨k', s1.give r, r, he, ⟨hA, ⟨?_, ?_, ?_, ?_⟩, ?_, ?_⟩, T, ⟨?_, ?_, fun x hx => ?_, ?_⟩, ?_, ?_, ?_, ?_, t, d⟩
    · show s1.ms ≤ _; rw [U.ms]; exact had.ms
    · show s1.hn + (fresh s1 r).length ≤ _; rw [U.hn]; have := had.ms; omega
    · show s1.gn + 1 ≤ _; rw [U.gn]; omega
    · show s1.vs ≤ _; rw [U.vs]; exact had.vs
    · show (decide ((0 : Int) = r) || s1.gi 0) = true; rw [U.gi, L.g0]; simp
    · show (decide ((1 : Int) = r) || s1.gi 1) = true; rw [U.gi, L.g1]; simp
    · exact U.vs
    · exact U.ms
    · show (decide (x = r) || s1.gi x) = true; rw [U.gi, hx]; simp
    · exact U.nd
    · exact hm
    · show s1.hn + (fresh s1 r).length ≤ _; rw [U.hn]; omega
    · show s1.gn + 1 = _; rw [U.gn]
    · show (decide ((r : Int) = r) || s1.gi r) = true; simp
theorem sem_at {k : Blk} {s : St} {w w1 : World} {R B : Nat} {S : Nat → Bool} {G : Env → Bool} {e : Ending} {w' : World} (h : SemOut k s w1 R B S G e w') (hb : Below w.heap.size w w1) : SemOut k s w R B S G e w' := by
  obtain ⟨k', s', r, h1, h2, h3, h4⟩ := h
  exact ⟨k', s', r, h1, h2, (Turn.below hb).trans h3, h4⟩
def oneS (i : Nat) : Nat → Bool := fun x => decide (x = i)
theorem nS_one (i : Nat) : nS (oneS i) 0 ≤ 1 := by
  have : nS (oneS i) 0 ≤ nS (oneS 0) 0 := nS_sub (fun _ => i) (fun y _ _ h => ⟨0, Nat.le_refl _, by omega, by simp [oneS], by unfold oneS at h; simp at h; exact h.symm⟩)
  have h0 : nS (oneS 0) 0 = 1 := by decide
  omega
/-- a variable -/
theorem Var_sem (k : Blk) (s : St) (i : Nat) (w : World) (L : Live w k s) (hi : i < s.vs) (hm : s.m + 3 ≤ 1000000000) :
    Calls Try.prog 18 #[.pointer (some ⟨k.p, 0, none⟩), .int .i64 i] w (ApiOut k s w 3 (OkSem (oneS i) (fun ρ => ρ i))) := by
  refine (var_any k s i w L.ar L.ad hi hm).mono ?_
  intro e w' ho
  refine ho.mono (Nat.le_refl _) (fun nd' r hex o => ?_)
  obtain ⟨t, _, d⟩ := o (oneS i) _ _ _ _ (by simp [oneS]) .zero .one
  refine ⟨t, ?_⟩
  have e : (fun ρ : Env => ρ i) = fun ρ => if ρ i then true else false := by funext ρ; cases ρ i <;> simp
  rw [e]; exact d
end Go.Proofs.Ytgfjdkkfgclhjaa.Bd
/- Each call of an arena, said of functions: where there is room, it answers a node. -/
namespace Go.Proofs.Ytgfjdkkfgclhjaa.Bd
open Go.RowKit Go.Proofs.Ytgfjdkkfgclhjaa Go.Proofs.Ytgfjdkkfgclhjaa.Lx Go.Maps

structure Room (s : St) (n R : Nat) : Prop where
  m : s.m + R ≤ 1000000000
  g : s.gn + 1 ≤ 900000000
  h : s.hn + (2 ^ (n - 3) + 255) ≤ s.ms
abbrev held (n : Nat) : Nat := 2 ^ (n - 3) + 255
abbrev walkR (n : Nat) : Nat := n * 2 ^ (n + 2) + 2
theorem pow_up (n : Nat) : 2 ^ (n + 1) ≤ 2 ^ (n + 2) := Nat.pow_le_pow_right (by omega) (by omega)
theorem pow_ge4 (n : Nat) : 4 ≤ 2 ^ (n + 2) := by have := Nat.one_le_two_pow (n := n); rw [Nat.pow_succ, Nat.pow_succ]; omega
theorem walk_up {S : Nat → Bool} {n t : Nat} (hn : nS S 0 ≤ n) : nS S t * 2 ^ (nS S t + 2) + 2 ≤ walkR n := by
  have h1 := min_le S t
  have h2 : 2 ^ (nS S t + 2) ≤ 2 ^ (n + 2) := Nat.pow_le_pow_right (by omega) (by omega)
  have := Nat.mul_le_mul (show nS S t ≤ n by omega) h2
  unfold walkR
  omega
theorem sem_up {k : Blk} {s : St} {w w' : World} {R R' n : Nat} {S : Nat → Bool} {G : Env → Bool} {ok : List Nd → Nat → Prop} {e : Ending} (h : ApiOut k s w R ok e w') (hR : R ≤ R') (ho : ∀ nd' r, ok nd' r → OkSem S G nd' r) (L : Live w k s) (rm : Room s n R') (hn : nS S 0 ≤ n) : SemOut k s w R' (held n) S G e w' := by
  have hB : s.hn + 2 ^ (n - 3) + 255 ≤ s.ms := by rw [Nat.add_assoc]; exact rm.h
  exact sem_of (h.mono hR (fun nd' r _ o => ho nd' r o)) L rm.g hn hB
theorem Var_live (n : Nat) (k : Blk) (s : St) (i : Nat) (w : World) (L : Live w k s) (hi : i < s.vs) (hn : 1 ≤ n) (rm : Room s n (2 ^ (n + 2))) :
    Calls Try.prog 18 #[.pointer (some ⟨k.p, 0, none⟩), .int .i64 i] w (SemOut k s w (2 ^ (n + 2)) (held n) (oneS i) (fun ρ => ρ i)) := by
  have h4 := pow_ge4 n
  have hm := rm.m
  exact (Var_sem k s i w L hi (by omega)).mono (fun e w' ho => sem_up ho (by omega) (fun _ _ o => o) L rm (by have := nS_one i; omega))
theorem Not_live (n : Nat) (S : Nat → Bool) (k : Blk) (s : St) (f : Nat) (F : Env → Bool) (w : World) (L : Live w k s) (nf : Nod s f S F) (hn : nS S 0 ≤ n) (rm : Room s n (2 ^ (n + 2))) :
    Calls Try.prog 10 #[.pointer (some ⟨k.p, 0, none⟩), .int .i64 f] w (SemOut k s w (2 ^ (n + 2)) (held n) S (fun ρ => !F ρ)) := by
  obtain ⟨g, t, d⟩ := nf
  have hu := pow_up n
  have hm := rm.m
  exact (Not_sem S k s f t n F w L.ar L.ad ⟨L.g0, L.g1⟩ g d hn (by omega)).mono (fun e w' ho => sem_up ho hu (fun _ _ o => o) L rm hn)
theorem And_live (n : Nat) (S : Nat → Bool) (k : Blk) (s : St) (f g : Nat) (F G : Env → Bool) (w : World) (L : Live w k s) (nf : Nod s f S F) (ng : Nod s g S G) (hn : nS S 0 ≤ n) (rm : Room s n (2 ^ (n + 2))) :
    Calls Try.prog 24 #[.pointer (some ⟨k.p, 0, none⟩), .int .i64 f, .int .i64 g] w (SemOut k s w (2 ^ (n + 2)) (held n) S (fun ρ => F ρ && G ρ)) := by
  obtain ⟨g1, t1, d1⟩ := nf
  obtain ⟨g2, t2, d2⟩ := ng
  have hu := pow_up n
  have hm := rm.m
  exact (And_sem S k s f g t1 t2 n F G w L.ar L.ad ⟨L.g0, L.g1⟩ g1 g2 d1 d2 hn (by omega)).mono (fun e w' ho => sem_up ho hu (fun _ _ o => o) L rm hn)
theorem Or_live (n : Nat) (S : Nat → Bool) (k : Blk) (s : St) (f g : Nat) (F G : Env → Bool) (w : World) (L : Live w k s) (nf : Nod s f S F) (ng : Nod s g S G) (hn : nS S 0 ≤ n) (rm : Room s n (2 ^ (n + 2))) :
    Calls Try.prog 22 #[.pointer (some ⟨k.p, 0, none⟩), .int .i64 f, .int .i64 g] w (SemOut k s w (2 ^ (n + 2)) (held n) S (fun ρ => F ρ || G ρ)) := by
  obtain ⟨g1, t1, d1⟩ := nf
  obtain ⟨g2, t2, d2⟩ := ng
  have hu := pow_up n
  have hm := rm.m
  exact (Or_sem S k s f g t1 t2 n F G w L.ar L.ad ⟨L.g0, L.g1⟩ g1 g2 d1 d2 hn (by omega)).mono (fun e w' ho => sem_up ho hu (fun _ _ o => o) L rm hn)
theorem Xor_live (n : Nat) (S : Nat → Bool) (k : Blk) (s : St) (f g : Nat) (F G : Env → Bool) (w : World) (L : Live w k s) (nf : Nod s f S F) (ng : Nod s g S G) (hn : nS S 0 ≤ n) (rm : Room s n (2 ^ (n + 2))) :
    Calls Try.prog 42 #[.pointer (some ⟨k.p, 0, none⟩), .int .i64 f, .int .i64 g] w (SemOut k s w (2 ^ (n + 2)) (held n) S (fun ρ => if F ρ then !G ρ else G ρ)) := by
  obtain ⟨g1, t1, d1⟩ := nf
  obtain ⟨g2, t2, d2⟩ := ng
  exact (Xor_sem S k s f g t1 t2 n F G w L.ar L.ad g1 g2 d1 d2 hn rm.m).mono (fun e w' ho => sem_up ho (Nat.le_refl _) (fun _ _ o => o) L rm hn)
theorem Ite_live (n : Nat) (S : Nat → Bool) (k : Blk) (s : St) (f g h : Nat) (F G H : Env → Bool) (w : World) (L : Live w k s) (nf : Nod s f S F) (ng : Nod s g S G) (nh : Nod s h S H) (hn : nS S 0 ≤ n) (rm : Room s n (2 ^ (n + 2))) :
    Calls Try.prog 19 #[.pointer (some ⟨k.p, 0, none⟩), .int .i64 f, .int .i64 g, .int .i64 h] w (SemOut k s w (2 ^ (n + 2)) (held n) S (fun ρ => if F ρ then G ρ else H ρ)) := by
  obtain ⟨g1, t1, d1⟩ := nf
  obtain ⟨g2, t2, d2⟩ := ng
  obtain ⟨g3, t3, d3⟩ := nh
  have hu := pow_up n
  have hm := rm.m
  exact (Ite_sem S k s f g h t1 t2 t3 n F G H w L.ar L.ad g1 g2 g3 d1 d2 d3 hn (by omega)).mono (fun e w' ho => sem_up ho hu (fun _ _ o => o) L rm hn)
theorem Restrict_live (n : Nat) (S : Nat → Bool) (k : Blk) (s : St) (f i : Nat) (b : Bool) (F : Env → Bool) (w : World) (L : Live w k s) (nf : Nod s f S F) (hi : i < s.vs) (hn : nS S 0 ≤ n) (rm : Room s n (walkR n)) :
    Calls Try.prog 23 #[.pointer (some ⟨k.p, 0, none⟩), .int .i64 f, .int .i64 i, .bool b] w (SemOut k s w (walkR n) (held n) S (resT i b F)) := by
  obtain ⟨g, t, d⟩ := nf
  have hu := walk_up (t := t) hn
  have hm := rm.m
  exact (Restrict_any S k s f i t b F w L.ar L.ad g d hi (by omega)).mono (fun e w' ho => sem_up ho hu (fun _ _ o => okSem_of o) L rm hn)
theorem Exists_live (n : Nat) (S : Nat → Bool) (k : Blk) (s : St) (f : Nat) (F : Env → Bool) (A : Option Addr) (c : Nat) (l : List Nat) (w : World) (L : Live w k s) (nf : Nod s f S F) (hS : Src w A l.length c 1 ((encL l).map encI)) (hln : l.length ≤ maxLen) (hl : ∀ x ∈ l, x < s.vs) (hn : nS S 0 ≤ n) (rm : Room s n (walkR n)) :
    Calls Try.prog 25 #[.pointer (some ⟨k.p, 0, none⟩), .int .i64 f, .slice A l.length c] w (SemOut k s w (walkR n) (held n) S (overT (fun a b => a || b) (memB l) F)) := by
  obtain ⟨g, t, d⟩ := nf
  have hu := walk_up (t := t) hn
  have hm := rm.m
  exact (Exists_any S k s f t F A c l w L.ar L.ad g d hS hln hl (by omega)).mono (fun e w' ho => sem_up ho hu (fun _ _ o => okSem_of o) L rm hn)
theorem Forall_live (n : Nat) (S : Nat → Bool) (k : Blk) (s : St) (f : Nat) (F : Env → Bool) (A : Option Addr) (c : Nat) (l : List Nat) (w : World) (L : Live w k s) (nf : Nod s f S F) (hS : Src w A l.length c 1 ((encL l).map encI)) (hln : l.length ≤ maxLen) (hl : ∀ x ∈ l, x < s.vs) (hn : nS S 0 ≤ n) (rm : Room s n (walkR n)) :
    Calls Try.prog 26 #[.pointer (some ⟨k.p, 0, none⟩), .int .i64 f, .slice A l.length c] w (SemOut k s w (walkR n) (held n) S (overT (fun a b => a && b) (memB l) F)) := by
  obtain ⟨g, t, d⟩ := nf
  have hu := walk_up (t := t) hn
  have hm := rm.m
  exact (Forall_any S k s f t F A c l w L.ar L.ad g d hS hln hl (by omega)).mono (fun e w' ho => sem_up ho hu (fun _ _ o => okSem_of o) L rm hn)
/-- what becomes of all the variables of S -/
def imgA (S : Nat → Bool) (ps : List (Nat × Nat)) : Nat → Bool := imgS S (rnOf ps) 0
theorem Rename_live (n : Nat) (S : Nat → Bool) (k : Blk) (s : St) (f : Nat) (F : Env → Bool) (A1 A2 : Option Addr) (c1 c2 : Nat) (l1 l2 : List Nat) (w : World) (L : Live w k s) (nf : Nod s f S F) (hS1 : Src w A1 l1.length c1 1 ((encL l1).map encI)) (hS2 : Src w A2 l2.length c2 1 ((encL l2).map encI)) (hln : l1.length ≤ 1000000) (he : l1.length = l2.length) (hnd : l1.Nodup) (hl1 : ∀ x ∈ l1, x < s.vs) (hl2 : ∀ x ∈ l2, x < s.vs) (hn : nS S 0 ≤ n) (rm : Room s n (walkR n)) :
    Calls Try.prog 16 #[.pointer (some ⟨k.p, 0, none⟩), .int .i64 f, .slice A1 l1.length c1, .slice A2 l2.length c2] w (SemOut k s w (walkR n) (held n) (imgA S (l1.zip l2)) (renT (rnOf (l1.zip l2)) F)) := by
  obtain ⟨g, t, d⟩ := nf
  have hu := walk_up (t := t) hn
  have hm := rm.m
  refine (Rename_any S k s f t F A1 A2 c1 c2 l1 l2 w L.ar L.ad g d hS1 hS2 hln he hnd hl1 hl2 (by omega)).mono (fun e w' ho => sem_up ho hu (fun nd' r o => ?_) L rm ?_)
  · obtain ⟨t', _, d'⟩ := o
    exact ⟨t', d'.mono (fun x hx => imgS_mono (Nat.zero_le _) x hx)⟩
  · have := imgS_le S (rnOf (l1.zip l2)) 0 0
    unfold imgA
    omega
end Go.Proofs.Ytgfjdkkfgclhjaa.Bd
/- An arena whose own blocks are as they were. -/
namespace Go.Proofs.Ytgfjdkkfgclhjaa.Bd
open Go.RowKit Go.Proofs.Ytgfjdkkfgclhjaa Go.Proofs.Ytgfjdkkfgclhjaa.Lx Go.Maps

theorem MSet.block {P : Program} {w w' : World} {kt e : TypeId} {b n N : Nat} {α : Type} {en : α → Value} {f : α → Bool} (h : MSet P w kt e b n N en f) (hb : w'.heap[b]? = w.heap[b]?) : MSet P w' kt e b n N en f := by
  obtain ⟨D, h1, h2⟩ := h
  obtain ⟨es, cl, hh, F, hs', hD⟩ := h1
  exact ⟨D, ⟨es, cl, hb.trans hh, F, hs', hD⟩, h2⟩
theorem own_block {w w' : World} {base size n g c : Nat} {e : TypeId} {xs : List Value} {m : Nat} (h : w.ownsRow base e size (.slice (some ⟨g, 0, none⟩) m c) n xs) (hb : w'.heap[g]? = w.heap[g]?) : w'.ownsRow base e size (.slice (some ⟨g, 0, none⟩) m c) n xs := by
  refine ⟨h.1, ?_⟩
  rcases h.2 with ⟨h1, _⟩ | ⟨g', cap, cur, h1, h2, h3, h4⟩
  · cases h1
  · refine .inr ⟨g', cap, cur, h1, h2, ?_, h4⟩
    injection h1 with h1
    injection h1 with h1
    injection h1 with h1
    subst h1
    exact hb.trans h3
theorem Hp.same {w w' : World} {k : Blk} {s : St} {fb ft : Nd → Option Int} (h : Hp w k s fb ft) (hs : ∀ i, fp k i → w'.heap[i]? = w.heap[i]?) : Hp w' k s fb ft := by
  have a1 := hs k.p (by simp [fp])
  have a2 := hs k.g (by simp [fp])
  have a3 := hs k.bm (by simp [fp])
  have a4 := hs k.it (by simp [fp])
  have a5 := hs k.gi (by simp [fp])
  have a6 := hs k.he (by simp [fp])
  obtain ⟨N, hg⟩ := h.gi
  obtain ⟨D1, ⟨es1, cl1, hh1, F1, hs1, hD1⟩, h21⟩ := h.bm
  obtain ⟨D2, ⟨es2, cl2, hh2, F2, hs2, hD2⟩, h22⟩ := h.it
  exact ⟨a1.trans h.p, own_block h.v a2, ⟨D1, ⟨es1, cl1, a3.trans hh1, F1, hs1, hD1⟩, h21⟩, ⟨D2, ⟨es2, cl2, a4.trans hh2, F2, hs2, hD2⟩, h22⟩, ⟨N, hg.block a5⟩, h.he.block a6, h.d1, h.d2, h.d3, h.d4, h.d5, h.d6⟩
theorem Ar.lt {w : World} {k : Blk} {s : St} (h : Ar w k s) : ∀ i, fp k i → i < w.heap.size := by
  obtain ⟨_, _, H, _⟩ := h
  exact H.lt
/-- an arena that lies in new memory -/
structure Mine (w0 w : World) (k : Blk) (s : St) : Prop where
  L : Live w k s
  b : Below w0.heap.size w0 w
  f : ∀ i, fp k i → w0.heap.size ≤ i
theorem Mine.turn {w0 w w' : World} {k k' : Blk} {s s' : St} (h : Mine w0 w k s) (L : Live w' k' s') (T : Turn k k' w w') : Mine w0 w' k' s' := by
  have hs := h.b.size
  refine ⟨L, h.b.trans (T.low h.f hs), fun i hi => ?_⟩
  unfold fp at hi
  rw [T.p, T.bm, T.it, T.gi, T.he] at hi
  rcases hi with e | e | e
  · exact h.f i (.inl e)
  · rcases T.row with e' | e'
    · exact h.f i (.inr (.inl (by omega)))
    · omega
  · exact h.f i (.inr (.inr e))
theorem Mine.below {w0 w w' : World} {k : Blk} {s : St} (h : Mine w0 w k s) (hb : Below w.heap.size w w') : Mine w0 w' k s := ⟨h.L.below hb, h.b.trans (hb.mono h.b.size), h.f⟩
theorem mine_new {w w' : World} {k : Blk} {vs ms : Nat} (h : Own w w' k (St.new vs ms)) (h1 : vs ≤ 256) (h2 : ms ≤ 4194304) : Mine w w' k (St.new vs ms) :=
  ⟨⟨h.1, ⟨h2, Nat.zero_le _, by show 2 ≤ 900000000; omega, h1⟩, rfl, rfl⟩, h.2.1, h.2.2⟩
theorem src2 (w : World) (a b : Int) : Src (w.alloc (.cells #[.int .i64 a, .int .i64 b] 3)) (some ⟨w.heap.size, 0, none⟩) 2 2 1 ([a, b].map encI) := by
  refine ⟨rfl, .inr ⟨_, rfl, fun j u hu => ?_⟩⟩
  match j, hu with
  | 0, hu => simp at hu; subst hu; exact cell_heap (j := 0) (heap_new _ _) rfl
  | 1, hu => simp at hu; subst hu; exact cell_heap (j := 1) (heap_new _ _) rfl
  | j + 2, hu => simp at hu
theorem srcB2 (w : World) (a b : Bool) : Src (w.alloc (.cells #[.bool a, .bool b] 4)) (some ⟨w.heap.size, 0, none⟩) 2 2 1 ([a, b].map Value.bool) := by
  refine ⟨rfl, .inr ⟨_, rfl, fun j u hu => ?_⟩⟩
  match j, hu with
  | 0, hu => simp at hu; subst hu; exact cell_heap (j := 0) (heap_new _ _) rfl
  | 1, hu => simp at hu; subst hu; exact cell_heap (j := 1) (heap_new _ _) rfl
  | j + 2, hu => simp at hu
end Go.Proofs.Ytgfjdkkfgclhjaa.Bd
