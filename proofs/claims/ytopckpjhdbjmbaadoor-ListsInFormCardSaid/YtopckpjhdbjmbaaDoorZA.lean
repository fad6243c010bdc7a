import Derived.Test.YtopckpjhdbjmbaaDoorBase
namespace Go.Proofs.YtopckpjhdbjmbaaDoor.Ld
open Go.RowKit

def pw (n : Int) : Int := 2 ^ (32 - n).toNat
theorem pw_bd (n : Int) (h0 : 0 ≤ n) : 1 ≤ pw n ∧ pw n ≤ 4294967296 := by
  unfold pw
  have h2 : (32 - n).toNat ≤ 32 := by omega
  have h3 : (2 : Nat) ^ (32 - n).toNat ≤ 2 ^ 32 := Nat.pow_le_pow_right (by omega) h2
  have h4 : 1 ≤ (2 : Nat) ^ (32 - n).toNat := Nat.one_le_two_pow
  have h5 : ((2 : Int) ^ (32 - n).toNat) = (((2 : Nat) ^ (32 - n).toNat : Nat) : Int) := by simp
  rw [h5]; omega
theorem pw_wrap (n : Int) (h0 : 0 ≤ n) (h1 : n ≤ 32) : IntKind.u64.wrap (IntKind.u64.wrap (2 ^ (32 - n).toNat) - 1) % 4294967296 = pw n - 1 := by
  have h := pw_bd n h0
  unfold pw at *
  rw [IntKind.wrap_u64, IntKind.wrap_u64]
  omega
theorem up_step (k n : Int) (h0 : 0 ≤ n) (h1 : n ≤ k) (h2 : k < 32) : IntKind.u64.wrap (2 * 2 ^ (k - n).toNat) = (2 : Int) ^ (k + 1 - n).toNat := by
  have e : (k + 1 - n).toNat = (k - n).toNat + 1 := by omega
  have hb : (2 : Nat) ^ (k - n).toNat ≤ 2 ^ 32 := Nat.pow_le_pow_right (by omega) (by omega)
  have h5 : ((2 : Int) ^ (k - n).toNat) = (((2 : Nat) ^ (k - n).toNat : Nat) : Int) := by simp
  rw [e, Int.pow_succ, h5, IntKind.wrap_u64]
  generalize (2 : Nat) ^ (k - n).toNat = z at *
  omega
set_option maxHeartbeats 400000 in
theorem behind_any (n : Int) (w : World) (h0 : 0 ≤ n) (h1 : n ≤ 32) :
    Calls Tryd.prog 89 #[.int .i64 n] w fun e w' => e = .returned (.int .u32 (pw n - 1)) ∧ w = w' := by
  go_enter Tryd.func89, Tryd.ntmps89
  go_wp2
  go_ret
  exact ⟨ret_int (pw_wrap n h0 h1), rfl⟩

/-- an errno: may a prefix be? -/
def chk (a b : Int) : Int := if b < 0 ∨ 32 < b then 1 else if a % pw b = 0 then 0 else 10

theorem nat_mask (x k : Nat) (hk : k ≤ 32) (hx : x < 4294967296) : x &&& (4294967295 - (2^k - 1)) = x - x % 2^k := by
  have e1 : 4294967295 - (2^k - 1) = (2^(32-k) - 1) <<< k := by
    rw [Nat.shiftLeft_eq, Nat.sub_mul, ← Nat.pow_add, show 32 - k + k = 32 by omega]
    have h1 : 1 ≤ 2^k := Nat.one_le_two_pow
    have h2 : 2^k ≤ 2^32 := Nat.pow_le_pow_right (by omega) hk
    omega
  have e2 : x - x % 2^k = (x >>> k) <<< k := by
    rw [Nat.shiftLeft_eq, Nat.shiftRight_eq_div_pow]
    have := Nat.div_add_mod x (2^k)
    rw [Nat.mul_comm] at this
    omega
  rw [e1, e2]
  apply Nat.eq_of_testBit_eq
  intro i
  simp only [Nat.testBit_and, Nat.testBit_shiftLeft, Nat.testBit_shiftRight, Nat.testBit_two_pow_sub_one]
  by_cases h : k ≤ i
  · simp only [h, decide_true, Bool.true_and]
    rw [show k + (i - k) = i by omega]
    by_cases h3 : i < 32
    · simp [show i - k < 32 - k by omega]
    · have : x.testBit i = false := Nat.testBit_lt_two_pow (Nat.lt_of_lt_of_le hx (by
        have : 2^32 ≤ 2^i := Nat.pow_le_pow_right (by omega) (by omega)
        omega))
      simp [this]
  · simp [h]
theorem pw_nat (n : Int) : pw n = ((2 ^ (32 - n).toNat : Nat) : Int) := by simp [pw]
theorem pw_le (n : Int) (h0 : 0 ≤ n) : 1 ≤ 2 ^ (32 - n).toNat ∧ 2 ^ (32 - n).toNat ≤ 4294967296 := 
  ⟨Nat.one_le_two_pow, by have : 2 ^ (32 - n).toNat ≤ 2 ^ 32 := Nat.pow_le_pow_right (by omega) (by omega)
                          omega⟩
theorem and_mask (a n : Int) (ha : 0 ≤ a) (ha2 : a ≤ 4294967295) (h0 : 0 ≤ n) : bits .and .u32 a (pw n - 1) = a % pw n := by
  have h := pw_le n h0
  rw [pw_nat]
  rw [u32_and _ _ ha (by omega) (by omega) (by omega)]
  obtain ⟨x, rfl⟩ := Int.eq_ofNat_of_zero_le ha
  rw [show (((2 ^ (32 - n).toNat : Nat) : Int) - 1).toNat = 2 ^ (32 - n).toNat - 1 by omega, Int.toNat_natCast, Nat.and_two_pow_sub_one_eq_mod]
  simp
theorem andNot_mask (a n : Int) (ha : 0 ≤ a) (ha2 : a ≤ 4294967295) (h0 : 0 ≤ n) : bits .andNot .u32 a (pw n - 1) = a - a % pw n := by
  have h := pw_le n h0
  rw [pw_nat]
  rw [u32_andNot _ _ ha (by omega) (by omega) (by omega)]
  obtain ⟨x, rfl⟩ := Int.eq_ofNat_of_zero_le ha
  rw [show (((2 ^ (32 - n).toNat : Nat) : Int) - 1).toNat = 2 ^ (32 - n).toNat - 1 by omega, Int.toNat_natCast, nat_mask x _ (by omega) (by omega)]
  have := Nat.mod_le x (2 ^ (32 - n).toNat)
  rw [Int.ofNat_sub this]
  simp
theorem in_iff (x a p : Int) (hp : 0 < p) (h : a % p = 0) : (x - x % p = a) ↔ (a ≤ x ∧ x - a < p) := by
  have h1 := Int.emod_nonneg x (by omega : p ≠ 0)
  have h2 := Int.emod_lt_of_pos x hp
  constructor
  · intro e; omega
  · rintro ⟨h3, h4⟩
    have e : x = a + (x - a) := by omega
    have : x % p = (x - a) := by
      rw [e, Int.add_emod, h, Int.zero_add, Int.emod_emod, Int.emod_eq_of_lt (by omega) (by omega)]
      omega
    omega
set_option maxHeartbeats 400000 in
theorem check_any (a b : Int) (w : World) (ha : 0 ≤ a) (ha2 : a ≤ 4294967295) :
    Calls Tryd.prog 71 #[.agg #[.int .u32 a, .int .i64 b]] w fun e w' => e = .returned (.int .i64 (chk a b)) ∧ Below w.heap.size w w' := by
  by_cases h1 : b < 0
  · go_enter Tryd.func71, Tryd.ntmps71
    go_wp2
    go_ret
    exact ⟨ret_int (by unfold chk; rw [if_pos (by omega)]), by go_grown⟩
  by_cases h2 : 32 < b
  · go_enter Tryd.func71, Tryd.ntmps71
    go_wp2
    go_ret
    exact ⟨ret_int (by unfold chk; rw [if_pos (by omega)]), by go_grown⟩
  have hc0 := fun x => lat_cell (w := w.alloc (Obj.cells #[Value.int IntKind.u32 a, Value.int IntKind.i64 b] 35)) (a := ⟨w.heap.size, 0, none⟩) (v := .int .u32 a) (by simp) x
  have hc1 := fun x => lat_cell (w := w.alloc (Obj.cells #[Value.int IntKind.u32 a, Value.int IntKind.i64 b] 35)) (a := ⟨w.heap.size, 1, none⟩) (v := .int .i64 b) (by simp) x
  have hm := and_mask a b ha ha2 (by omega)
  go_enter Tryd.func71, Tryd.ntmps71
  go_wp2
  refine wp_region_lat (by kernel_rfl) (by kernel_rfl) ?_
  repeat (first | go_big_quiet_step ((go_at_call 89; exact calls_lat_same (behind_any _ _ (by omega) (by omega)))) | quiet_step ((go_at_call 89; exact calls_lat_same (behind_any _ _ (by omega) (by omega)))))
  refine wpQuiet_nil ?_
  intro _ hlat
  obtain ⟨wq, rfl⟩ := hlat
  have hb := lat_below (w.alloc (Obj.cells #[Value.int IntKind.u32 a, Value.int IntKind.i64 b] 35)) wq
  go_wp2
  all_goals go_ret
  · refine ⟨ret_int ?_, ?_⟩
    · unfold chk; rw [if_neg (by omega), if_neg (bne_t ‹_›)]
    · exact (((Below.refl _ _).alloc (Nat.le_refl _) _).trans (hb.mono (by simp)))
  · refine ⟨ret_int ?_, ?_⟩
    · unfold chk; rw [if_neg (by omega), if_pos (bne_f ‹_›)]
    · exact (((Below.refl _ _).alloc (Nat.le_refl _) _).trans (hb.mono (by simp)))

theorem chk_bd {a b : Int} (h : chk a b = 0) : 0 ≤ b ∧ b ≤ 32 ∧ a % pw b = 0 := by
  unfold chk at h
  split at h
  · omega
  · split at h
    · rename_i h1 h2; exact ⟨by omega, by omega, h2⟩
    · omega
def inB (x a b : Int) : Bool := chk a b == 0 && decide (a ≤ x) && decide (x - a < pw b)
abbrev O2 (a b : Int) : Obj := Obj.cells #[Value.int IntKind.u32 a, Value.int IntKind.i64 b] 35
theorem cell2_0 (w : World) (a b : Int) (x : World) : (lat (w.alloc (O2 a b)) x).cell? ⟨w.heap.size, 0, none⟩ = some (.int .u32 a) := lat_cell (by simp [O2]) x
theorem cell2_1 (w : World) (a b : Int) (x : World) : (lat (w.alloc (O2 a b)) x).cell? ⟨w.heap.size, 1, none⟩ = some (.int .i64 b) := lat_cell (by simp [O2]) x
theorem bel2 (w : World) (o : Obj) (x : World) : Below w.heap.size w (lat (w.alloc o) x) := ((Below.refl _ _).alloc (Nat.le_refl _) _).trans ((lat_below _ _).mono (by simp))
theorem bel3 (w : World) (o o2 : Obj) (x : World) : Below w.heap.size w (lat ((w.alloc o).alloc o2) x) := (((Below.refl _ _).alloc (Nat.le_refl _) _).alloc (by simp) _).trans ((lat_below _ _).mono (by simp; omega))

set_option maxHeartbeats 400000 in
theorem in_any (x a b : Int) (w : World) (hx : 0 ≤ x) (hx2 : x ≤ 4294967295) (ha : 0 ≤ a) (ha2 : a ≤ 4294967295) :
    Calls Tryd.prog 72 #[.int .u32 x, .agg #[.int .u32 a, .int .i64 b]] w fun e w' => e = .returned (.bool (inB x a b)) ∧ Below w.heap.size w w' := by
  have hc0 := cell2_0 w a b
  have hc1 := cell2_1 w a b
  by_cases hc : chk a b = 0
  · have hB : (chk a b == 0) = true := by simp [hc]
    obtain ⟨h0, h1, h2⟩ := chk_bd hc
    have hm := andNot_mask x b hx hx2 h0
    have HI : Hid (inB x a b = (x - x % pw b == a)) := by
      show inB x a b = (x - x % pw b == a)
      have h3 := in_iff x a (pw b) (by have := pw_bd b h0; omega) h2
      rw [Bool.eq_iff_iff]
      simp only [inB, hB, Bool.true_and, Bool.and_eq_true, decide_eq_true_eq, beq_iff_eq]
      exact h3.symm
    clear hc h2
    go_enter Tryd.func72, Tryd.ntmps72
    go_wp2
    refine wp_region_lat (by kernel_rfl) (by kernel_rfl) ?_
    repeat (first | go_big_quiet_step ((first | (go_at_call 71; exact calls_lat (check_any _ _ _ ha ha2)) | (go_at_call 89; exact calls_lat_same (behind_any _ _ h0 h1)))) | quiet_step ((first | (go_at_call 71; exact calls_lat (check_any _ _ _ ha ha2)) | (go_at_call 89; exact calls_lat_same (behind_any _ _ h0 h1)))))
    refine wpQuiet_nil ?_
    intro _ hlat
    obtain ⟨wq, rfl⟩ := hlat
    go_wp2
    go_ret
    exact ⟨ret_bool HI.out.symm, bel2 _ _ _⟩
  · have hB : (chk a b == 0) = false := by simp [hc]
    have HI : Hid (inB x a b = false) := by
      show inB x a b = false
      simp [inB, hB]
    clear hc
    go_enter Tryd.func72, Tryd.ntmps72
    go_wp2
    refine wp_region_lat (by kernel_rfl) (by kernel_rfl) ?_
    repeat (first | go_big_quiet_step ((first | (go_at_call 71; exact calls_lat (check_any _ _ _ ha ha2)))) | quiet_step ((first | (go_at_call 71; exact calls_lat (check_any _ _ _ ha ha2)))))
    refine wpQuiet_nil ?_
    intro _ hlat
    obtain ⟨wq, rfl⟩ := hlat
    go_wp2
    go_ret
    exact ⟨ret_bool HI.out.symm, bel2 _ _ _⟩

/-- is a prefix in another one? -/
def withB (a b c d : Int) : Bool := chk a b == 0 && decide (d ≤ b) && inB a c d

theorem bel_two (w : World) (o o2 : Obj) : Below w.heap.size w ((w.alloc o).alloc o2) := ((Below.refl _ _).alloc (Nat.le_refl _) _).alloc (by simp) _
set_option maxHeartbeats 400000 in
theorem within_any (a b c d : Int) (w : World) (ha : 0 ≤ a) (ha2 : a ≤ 4294967295) (hc : 0 ≤ c) (hc2 : c ≤ 4294967295) :
    Calls Tryd.prog 48 #[.agg #[.int .u32 a, .int .i64 b], .agg #[.int .u32 c, .int .i64 d]] w fun e w' => e = .returned (.bool (withB a b c d)) ∧ Below w.heap.size w w' := by
  by_cases hk : chk a b = 0
  · have hB : (chk a b == 0) = true := by simp [hk]
    clear hk
    by_cases hd : d ≤ b
    · have HI : Hid (withB a b c d = inB a c d) := by show _ = _; simp [withB, hB, hd]
      go_enter Tryd.func48, Tryd.ntmps48
      go_wp2_with (first
        | (go_at_call 71; refine (check_any _ _ _ ha ha2).mono ?_; rintro e w1 ⟨rfl, hb1⟩; have c0 := cellB (a := ⟨w.heap.size, 0, none⟩) (v := .int .u32 a) hb1 (by simp); have c1 := cellB (a := ⟨w.heap.size, 1, none⟩) (v := .int .i64 b) hb1 (by simp); have d0 := cellB (a := ⟨w.heap.size + 1, 0, none⟩) (v := .int .u32 c) hb1 (by simp); have d1 := cellB (a := ⟨w.heap.size + 1, 1, none⟩) (v := .int .i64 d) hb1 (by simp))
        | (go_at_call 72; refine (in_any _ _ _ _ ha ha2 hc hc2).mono ?_; rintro e w2 ⟨rfl, hb2⟩))
      go_ret
      exact ⟨ret_bool HI.out.symm, (bel_two w _ _).trans ((below_wide hb1 hb2).mono (by simp; omega))⟩
    · have HI : Hid (withB a b c d = false) := by show _ = _; simp [withB, hd]
      have hd2 : decide (d ≤ b) = false := by simpa using hd
      go_enter Tryd.func48, Tryd.ntmps48
      go_wp2_with (first
        | (go_at_call 71; refine (check_any _ _ _ ha ha2).mono ?_; rintro e w1 ⟨rfl, hb1⟩; have c0 := cellB (a := ⟨w.heap.size, 0, none⟩) (v := .int .u32 a) hb1 (by simp); have c1 := cellB (a := ⟨w.heap.size, 1, none⟩) (v := .int .i64 b) hb1 (by simp); have d0 := cellB (a := ⟨w.heap.size + 1, 0, none⟩) (v := .int .u32 c) hb1 (by simp); have d1 := cellB (a := ⟨w.heap.size + 1, 1, none⟩) (v := .int .i64 d) hb1 (by simp)))
      go_ret
      exact ⟨ret_bool HI.out.symm, (bel_two w _ _).trans (hb1.mono (by simp; omega))⟩
  · have hB : (chk a b == 0) = false := by simp [hk]
    have HI : Hid (withB a b c d = false) := by show _ = _; simp [withB, hB]
    clear hk
    go_enter Tryd.func48, Tryd.ntmps48
    go_wp2_with (first
      | (go_at_call 71; refine (check_any _ _ _ ha ha2).mono ?_; rintro e w1 ⟨rfl, hb1⟩))
    go_ret
    exact ⟨ret_bool HI.out.symm, (bel_two w _ _).trans (hb1.mono (by simp; omega))⟩
end Go.Proofs.YtopckpjhdbjmbaaDoor.Ld
