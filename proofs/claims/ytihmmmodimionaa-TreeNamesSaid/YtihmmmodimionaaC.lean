import Derived.Test.YtihmmmodimionaaB
namespace Go.Proofs.Ytihmmmodimionaa.Lx
open Go.RowKit

theorem is10_at (b : ByteArray) (k : Nat) (h : k < b.size) : is10 ((T b).drop k) = ((b[k].toNat : Int) == 10) := by
  rw [T_drop b k h]
  unfold is10
  rw [Bool.eq_iff_iff]
  simp only [List.head?_cons, beq_iff_eq, Option.some.injEq]
  rw [eq10]; omega
theorem isEnd_at (b : ByteArray) (k : Nat) (h : k < b.size) : isEnd ((T b).drop k) = (decide (0 ≤ Lib.indexByte endB b[k]) || Lib.hasPrefix ((T b).drop k) [47, 42]) := by
  rw [T_drop b k h]
  rfl
theorem firstN_at (p : List UInt8 → Bool) (b : ByteArray) (k : Nat) (h : k < b.size) : firstN p ((T b).drop k) = if p ((T b).drop k) then 0 else firstN p ((T b).drop (k + 1)) + 1 := by
  rw [T_drop b k h, firstN]

/-- token$1: is a byte a 0A? (V: where the captured reader stands) -/
theorem clos_any (R V : Nat) (b : ByteArray) (i : Nat) (w : World) (hi : i < b.size) (hs : b.size ≤ 1000000) (hv : w.cell? ⟨V, 0, none⟩ = some (.pointer (some ⟨R, 0, none⟩))) (hr : w.cell? ⟨R, 0, none⟩ = some (.string b)) :
    Calls Try.prog 55 #[.int .i64 i, .pointer (some ⟨V, 0, none⟩)] w fun e w' => e = .returned (.bool (is10 ((T b).drop i))) ∧ w = w' := by
  have HX := hide (is10_at b i hi)
  go_enter Try.func55, Try.ntmps55
  go_wp2
  go_ret
  exact ⟨by rw [HX.out]; rfl, rfl⟩

theorem ends_any (R : Nat) (b : ByteArray) (i : Nat) (w : World) (hi : i < b.size) (hs : b.size ≤ 1000000) (hr : w.cell? ⟨R, 0, none⟩ = some (.string b)) :
    Calls Try.prog 59 #[.pointer (some ⟨R, 0, none⟩), .int .i64 i] w fun e w' => e = .returned (.bool (isEnd ((T b).drop i))) ∧ w = w' := by
  have HX := hide (isEnd_at b i hi)
  have h1 := Try.strings_IndexByte ⟨#[32, 10, 123, 125, 59, 91, 93, 34, 35]⟩ b[i].toNat w
  have e1 : Lib.indexByte (⟨#[32, 10, 123, 125, 59, 91, 93, 34, 35]⟩ : ByteArray).data.toList ((b[i].toNat : Int)).toNat.toUInt8 = Lib.indexByte endB b[i] := by
    congr 1
    simp
  have h2 := Try.strings_HasPrefix (b.extract i b.size) ⟨#[47, 42]⟩ w
  have e2 : Lib.hasPrefix (b.extract i b.size).data.toList (⟨#[47, 42]⟩ : ByteArray).data.toList = Lib.hasPrefix ((T b).drop i) [47, 42] := by
    rw [← T_tail]; rfl
  rw [e1] at h1
  rw [e2] at h2
  generalize Lib.indexByte endB b[i] = r at *
  generalize Lib.hasPrefix ((T b).drop i) [47, 42] = q at *
  have H1 := hide h1
  have H2 := hide h2
  clear h1 h2 e1 e2
  by_cases hr0 : 0 ≤ r
  · go_enter Try.func59, Try.ntmps59
    go_wp2_with fail
    refine H1.out.mono ?_; rintro e w1 ⟨rfl, rfl⟩
    go_wp2_with fail
    go_ret
    exact ⟨by rw [HX.out, decide_eq_true hr0]; rfl, rfl⟩
  · have hd : decide (0 ≤ r) = false := by simpa using hr0
    go_enter Try.func59, Try.ntmps59
    go_wp2_with fail
    refine H1.out.mono ?_; rintro e w1 ⟨rfl, rfl⟩
    go_wp2_with fail
    refine H2.out.mono ?_; rintro e w2 ⟨rfl, rfl⟩
    go_wp2_with fail
    go_ret
    exact ⟨by rw [HX.out, hd]; rfl, rfl⟩

set_option maxHeartbeats 1000000 in
theorem until1_any (R V : Nat) (b : ByteArray) (w : World) (hs : b.size ≤ 1000000) (hv : w.cell? ⟨V, 0, none⟩ = some (.pointer (some ⟨R, 0, none⟩))) (hr : w.cell? ⟨R, 0, none⟩ = some (.string b)) :
    Calls Try.prog 54 #[.pointer (some ⟨R, 0, none⟩), .func (.func 55) #[] #[.pointer (some ⟨V, 0, none⟩)]] w fun e w' => e = .returned (.int .i64 (firstN is10 (T b))) ∧ w = w' := by
  have HC := hide (fun i hi => clos_any R V b i w hi hs hv hr)
  go_enter Try.func54, Try.ntmps54
  go_wp2
  go_loop [5] (fun j => ∃ k : Nat, k ≤ b.size ∧ j = .int .i64 k ∧ firstN is10 (T b) = k + firstN is10 ((T b).drop k)) (fun j => b.size - (intOf j).toNat)
  case atStart => exact ⟨0, Nat.zero_le _, rfl, by simp⟩
  case round =>
    obtain ⟨k, hk, rfl, hf⟩ := hrel
    have HF := hide hf
    clear hf
    by_cases hlt : k < b.size
    · have hcl := HC.out k hlt
      have HN := hide (firstN_at is10 b k hlt)
      cases hx : is10 ((T b).drop k)
      · rw [hx] at hcl
        have HX := hide hx
        have HCl := hide hcl
        clear hcl hx
        go_wp2_with fail
        refine HCl.out.mono ?_; rintro e w1 ⟨rfl, rfl⟩
        go_wp2_with fail
        go_round
        case rel => exact ⟨k + 1, by omega, by go_num, by rw [HF.out, HN.out, HX.out]; simp; omega⟩
        case measure => simp [intOf]; omega
      · rw [hx] at hcl
        have HX := hide hx
        have HCl := hide hcl
        clear hcl hx
        go_wp2_with fail
        refine HCl.out.mono ?_; rintro e w1 ⟨rfl, rfl⟩
        go_wp2_with fail
        go_ret
        exact ⟨ret_int (by rw [HF.out, HN.out, HX.out]; simp), rfl⟩
    · go_wp2_with fail
      go_ret
      exact ⟨ret_int (by rw [HF.out, List.drop_eq_nil_of_le (by rw [T_len]; omega)]; simp [firstN]), rfl⟩

set_option maxHeartbeats 1000000 in
theorem until2_any (R : Nat) (b : ByteArray) (w : World) (hs : b.size ≤ 1000000) (hr : w.cell? ⟨R, 0, none⟩ = some (.string b)) :
    Calls Try.prog 54 #[.pointer (some ⟨R, 0, none⟩), .func (.func 59) #[.pointer (some ⟨R, 0, none⟩)] #[]] w fun e w' => e = .returned (.int .i64 (firstN isEnd (T b))) ∧ w = w' := by
  have HC := hide (fun i hi => ends_any R b i w hi hs hr)
  go_enter Try.func54, Try.ntmps54
  go_wp2
  go_loop [5] (fun j => ∃ k : Nat, k ≤ b.size ∧ j = .int .i64 k ∧ firstN isEnd (T b) = k + firstN isEnd ((T b).drop k)) (fun j => b.size - (intOf j).toNat)
  case atStart => exact ⟨0, Nat.zero_le _, rfl, by simp⟩
  case round =>
    obtain ⟨k, hk, rfl, hf⟩ := hrel
    have HF := hide hf
    clear hf
    by_cases hlt : k < b.size
    · have hcl := HC.out k hlt
      have HN := hide (firstN_at isEnd b k hlt)
      cases hx : isEnd ((T b).drop k)
      · rw [hx] at hcl
        have HX := hide hx
        have HCl := hide hcl
        clear hcl hx
        go_wp2_with fail
        refine HCl.out.mono ?_; rintro e w1 ⟨rfl, rfl⟩
        go_wp2_with fail
        go_round
        case rel => exact ⟨k + 1, by omega, by go_num, by rw [HF.out, HN.out, HX.out]; simp; omega⟩
        case measure => simp [intOf]; omega
      · rw [hx] at hcl
        have HX := hide hx
        have HCl := hide hcl
        clear hcl hx
        go_wp2_with fail
        refine HCl.out.mono ?_; rintro e w1 ⟨rfl, rfl⟩
        go_wp2_with fail
        go_ret
        exact ⟨ret_int (by rw [HF.out, HN.out, HX.out]; simp), rfl⟩
    · go_wp2_with fail
      go_ret
      exact ⟨ret_int (by rw [HF.out, List.drop_eq_nil_of_le (by rw [T_len]; omega)]; simp [firstN]), rfl⟩
end Go.Proofs.Ytihmmmodimionaa.Lx
