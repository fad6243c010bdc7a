import Derived.Test.YtihmmmodimionaaF
namespace Go.Proofs.Ytihmmmodimionaa.Lx
open Go.RowKit
theorem indexByte_lt (c : UInt8) : ∀ l : List UInt8, Lib.indexByte l c < l.length := by
  intro l
  induction l with
  | nil => simp [Lib.indexByte]
  | cons x xs ih =>
    unfold Lib.indexByte
    have hge := Lib.indexByte_ge xs c
    simp only [List.length_cons]
    split
    · omega
    · split
      · omega
      · omega
theorem sign_eq (b : ByteArray) (h : 0 < b.size) : Lib.indexByte (⟨#[123, 125, 59, 91, 93]⟩ : ByteArray).data.toList ((b[0].toNat : Int)).toNat.toUInt8 = Lib.indexByte signs b[0] := by
  congr 1
  simp

set_option maxRecDepth 100000 in
set_option maxHeartbeats 1000000 in
theorem token_sign (R : Nat) (b : ByteArray) (l c : Int) (w : World) (hb0 : 0 < b.size) (hbs : b.size ≤ 65536) (hl : 1 ≤ l) (hl2 : l + b.size ≤ 1000000) (hc : 1 ≤ c) (hc2 : c + b.size ≤ 1000000) (hr : RdR w R b l c)
    (hx : ¬ (b[0].toNat : Int) = 32 ∧ ¬ (b[0].toNat : Int) = 10 ∧ ¬ (b[0].toNat : Int) = 35 ∧ ¬ (b[0].toNat : Int) = 34) (hp : Lib.hasPrefix (T b) [47, 42] = false) (hr0 : 0 ≤ Lib.indexByte signs b[0]) (hst : step (T b) = ⟨false, true, 2 + Lib.indexByte signs b[0], (T b).take 1, 1⟩) :
    Calls Try.prog 29 #[.pointer (some ⟨R, 0, none⟩)] w (TokPost R b l c w) := by
  have q0 := fun o => cell_heap (j := 0) (heap_old (p := o) hr) rfl
  have q1 := fun o o2 => cell_heap (j := 1) (heap_old (p := o2) (heap_old (p := o) hr)) rfl
  have q2 := fun o o2 => cell_heap (j := 2) (heap_old (p := o2) (heap_old (p := o) hr)) rfl
  have q3 := fun o o2 o3 => cell_heap (j := 0) (heap_old (p := o3) (heap_old (p := o2) (heap_old (p := o) hr))) rfl
  have HT0 := hide (ts_start w R b l c hr)
  have H0 := hide (fun W => Try.strings_IndexByte ⟨#[123, 125, 59, 91, 93]⟩ b[0].toNat W)
  have HST := hide hst
  clear hst
  obtain ⟨hx1', hx2', hx3', hx4'⟩ := hx
  have hx1 : ((b[0].toNat : Int) == 32) = false := beq_if (by omega)
  have hx2 : ((b[0].toNat : Int) == 10) = false := beq_if (by omega)
  have hx3 : ((b[0].toNat : Int) == 35) = false := beq_if (by omega)
  have hx4 : ((b[0].toNat : Int) == 34) = false := beq_if (by omega)
  have h0r := fun W => Try.strings_IndexByte ⟨#[123, 125, 59, 91, 93]⟩ b[0].toNat W
  simp only [sign_eq b hb0] at h0r
  have hlt5 := indexByte_lt b[0] signs
  have hlt6 : Lib.indexByte signs b[0] < 5 := hlt5
  clear hlt5
  generalize Lib.indexByte signs b[0] = r at *
  have H0R := hide h0r
  clear h0r H0
  clear hr
  go_enter Try.func29, Try.ntmps29
  go_wp2_with fail
  refine (H0R.out _).mono ?_; rintro e w1 ⟨rfl, hw1⟩
  have HT1 := hide (show TS w R b l c l c 1 { data := #[] } w1 by rw [hw1]; exact HT0.out)
  clear hw1 q0 q1 q2 q3 HT0 H0R
  have v0 := cell_heap (j := 0) HT1.out.v rfl
  have t0 := cell_heap (j := 0) HT1.out.t_ rfl
  have t1 := cell_heap (j := 1) HT1.out.t_ rfl
  have t2 := cell_heap (j := 2) HT1.out.t_ rfl
  have t3 := cell_heap (j := 3) HT1.out.t_ rfl
  have z0 := cell_heap (j := 0) HT1.out.z rfl
  have z1 := cell_heap (j := 1) HT1.out.z rfl
  have z2 := cell_heap (j := 2) HT1.out.z rfl
  have z3 := cell_heap (j := 3) HT1.out.z rfl
  have fz0 := frozen_heap (j := 0) HT1.out.z
  have fz1 := frozen_heap (j := 1) HT1.out.z
  have fz2 := frozen_heap (j := 2) HT1.out.z
  have fz3 := frozen_heap (j := 3) HT1.out.z
  have r0 := cell_heap (j := 0) HT1.out.r rfl
  have hpre := Try.strings_HasPrefix b ⟨#[47, 42]⟩ w1
  rw [show Lib.hasPrefix b.data.toList (⟨#[47, 42]⟩ : ByteArray).data.toList = false from hp] at hpre
  have HPRE := hide hpre
  clear hpre
  go_wp2_with fail
  refine HPRE.out.mono ?_; rintro e w2 ⟨rfl, rfl⟩
  go_wp2_with fail
  refine (take_int R b _ 1 l c _ (by omega) (by omega) hl (by omega) hc (by omega) HT1.out.r).mono ?_; rintro e w4 ⟨rfl, ho, hr2⟩
  have HT2 := hide (HT1.out.took ho hr2)
  clear ho hr2 HT1 HPRE
  clear v0 t0 t1 t2 t3 z0 z1 z2 z3 fz0 fz1 fz2 fz3 r0
  have v0 := cell_heap (j := 0) HT2.out.v rfl
  have t0 := cell_heap (j := 0) HT2.out.t_ rfl
  have t1 := cell_heap (j := 1) HT2.out.t_ rfl
  have t2 := cell_heap (j := 2) HT2.out.t_ rfl
  have t3 := cell_heap (j := 3) HT2.out.t_ rfl
  have z0 := cell_heap (j := 0) HT2.out.z rfl
  have z1 := cell_heap (j := 1) HT2.out.z rfl
  have z2 := cell_heap (j := 2) HT2.out.z rfl
  have z3 := cell_heap (j := 3) HT2.out.z rfl
  have fz0 := frozen_heap (j := 0) HT2.out.z
  have fz1 := frozen_heap (j := 1) HT2.out.z
  have fz2 := frozen_heap (j := 2) HT2.out.z
  have fz3 := frozen_heap (j := 3) HT2.out.z
  have r0 := cell_heap (j := 0) HT2.out.r rfl
  have ft0 := frozen_heap (j := 0) HT2.out.t_
  have ft1 := frozen_heap (j := 1) HT2.out.t_
  go_wp2_with fail
  have HT3 := hide ((HT2.out.set_k (2 + r)).set_t (b.extract 0 1))
  refine bodyPost_ret (v := .tuple #[.agg #[.int .u8 (2 + r), .string (b.extract 0 1), .int .i64 l, .int .i64 c], .bool true, .int .i64 0]) (by simp [results, Try.results29, go_sem, z0, z1, z2, z3]) rfl ?_
  refine ⟨(HT3.out.out _ _ _ _).1, .inr ?_⟩
  rw [HST.out]
  exact ⟨rfl, _, _, T_head b 1, T_tail b 1, rfl, (HT3.out.out _ _ _ _).2⟩

set_option maxRecDepth 100000 in
set_option maxHeartbeats 1000000 in
theorem token_word (R : Nat) (b : ByteArray) (l c : Int) (w : World) (hb0 : 0 < b.size) (hbs : b.size ≤ 65536) (hl : 1 ≤ l) (hl2 : l + b.size ≤ 1000000) (hc : 1 ≤ c) (hc2 : c + b.size ≤ 1000000) (hr : RdR w R b l c)
    (hx : ¬ (b[0].toNat : Int) = 32 ∧ ¬ (b[0].toNat : Int) = 10 ∧ ¬ (b[0].toNat : Int) = 35 ∧ ¬ (b[0].toNat : Int) = 34) (hp : Lib.hasPrefix (T b) [47, 42] = false) (hr0 : ¬ 0 ≤ Lib.indexByte signs b[0]) (hst : step (T b) = ⟨false, true, 1, (T b).take (firstN isEnd (T b)), firstN isEnd (T b)⟩) :
    Calls Try.prog 29 #[.pointer (some ⟨R, 0, none⟩)] w (TokPost R b l c w) := by
  have q0 := fun o => cell_heap (j := 0) (heap_old (p := o) hr) rfl
  have q1 := fun o o2 => cell_heap (j := 1) (heap_old (p := o2) (heap_old (p := o) hr)) rfl
  have q2 := fun o o2 => cell_heap (j := 2) (heap_old (p := o2) (heap_old (p := o) hr)) rfl
  have q3 := fun o o2 o3 => cell_heap (j := 0) (heap_old (p := o3) (heap_old (p := o2) (heap_old (p := o) hr))) rfl
  have HT0 := hide (ts_start w R b l c hr)
  have H0 := hide (fun W => Try.strings_IndexByte ⟨#[123, 125, 59, 91, 93]⟩ b[0].toNat W)
  have HST := hide hst
  clear hst
  obtain ⟨hx1', hx2', hx3', hx4'⟩ := hx
  have hx1 : ((b[0].toNat : Int) == 32) = false := beq_if (by omega)
  have hx2 : ((b[0].toNat : Int) == 10) = false := beq_if (by omega)
  have hx3 : ((b[0].toNat : Int) == 35) = false := beq_if (by omega)
  have hx4 : ((b[0].toNat : Int) == 34) = false := beq_if (by omega)
  have h0r := fun W => Try.strings_IndexByte ⟨#[123, 125, 59, 91, 93]⟩ b[0].toNat W
  simp only [sign_eq b hb0] at h0r
  have hlt5 := indexByte_lt b[0] signs
  have hlt6 : Lib.indexByte signs b[0] < 5 := hlt5
  clear hlt5
  generalize Lib.indexByte signs b[0] = r at *
  have H0R := hide h0r
  clear h0r H0
  clear hr
  go_enter Try.func29, Try.ntmps29
  go_wp2_with fail
  refine (H0R.out _).mono ?_; rintro e w1 ⟨rfl, hw1⟩
  have HT1 := hide (show TS w R b l c l c 1 { data := #[] } w1 by rw [hw1]; exact HT0.out)
  clear hw1 q0 q1 q2 q3 HT0 H0R
  have v0 := cell_heap (j := 0) HT1.out.v rfl
  have t0 := cell_heap (j := 0) HT1.out.t_ rfl
  have t1 := cell_heap (j := 1) HT1.out.t_ rfl
  have t2 := cell_heap (j := 2) HT1.out.t_ rfl
  have t3 := cell_heap (j := 3) HT1.out.t_ rfl
  have z0 := cell_heap (j := 0) HT1.out.z rfl
  have z1 := cell_heap (j := 1) HT1.out.z rfl
  have z2 := cell_heap (j := 2) HT1.out.z rfl
  have z3 := cell_heap (j := 3) HT1.out.z rfl
  have fz0 := frozen_heap (j := 0) HT1.out.z
  have fz1 := frozen_heap (j := 1) HT1.out.z
  have fz2 := frozen_heap (j := 2) HT1.out.z
  have fz3 := frozen_heap (j := 3) HT1.out.z
  have r0 := cell_heap (j := 0) HT1.out.r rfl
  have hpre := Try.strings_HasPrefix b ⟨#[47, 42]⟩ w1
  rw [show Lib.hasPrefix b.data.toList (⟨#[47, 42]⟩ : ByteArray).data.toList = false from hp] at hpre
  have HPRE := hide hpre
  clear hpre
  have HN := hide (firstN_le isEnd (T b))
  have HU := hide (until2_any R b w1.drew (by omega) r0)
  generalize hgn : firstN isEnd (T b) = n at *
  have HGN := hide hgn
  clear hgn
  have hn : n ≤ b.size := by have := HN.out; rw [T_len] at this; exact this
  have hr0' : r < 0 := by omega
  have hr0d : decide (0 ≤ r) = false := by simp; omega
  clear hr0 hlt6
  go_wp2_with fail
  refine HPRE.out.mono ?_; rintro e w2 ⟨rfl, rfl⟩
  go_wp2_with fail
  refine wp_region_still_tail 5 (by kernel_rfl) (by kernel_rfl) ?_
  simp only [List.take_succ_cons, List.take_zero, List.drop_succ_cons, List.drop_zero]
  repeat still_step
  still_call (calls_flip HU.out)
  refine wpStill_nil ?_
  go_wp2_with fail
  refine (take_int R b _ n l c _ rfl hn hl (by omega) hc (by omega) HT1.out.drew.r).mono ?_; rintro e w4 ⟨rfl, ho, hr2⟩
  have HT2 := hide (HT1.out.drew.took ho hr2)
  clear ho hr2 HT1 HPRE
  clear v0 t0 t1 t2 t3 z0 z1 z2 z3 fz0 fz1 fz2 fz3 r0
  have v0 := cell_heap (j := 0) HT2.out.v rfl
  have t0 := cell_heap (j := 0) HT2.out.t_ rfl
  have t1 := cell_heap (j := 1) HT2.out.t_ rfl
  have t2 := cell_heap (j := 2) HT2.out.t_ rfl
  have t3 := cell_heap (j := 3) HT2.out.t_ rfl
  have z0 := cell_heap (j := 0) HT2.out.z rfl
  have z1 := cell_heap (j := 1) HT2.out.z rfl
  have z2 := cell_heap (j := 2) HT2.out.z rfl
  have z3 := cell_heap (j := 3) HT2.out.z rfl
  have fz0 := frozen_heap (j := 0) HT2.out.z
  have fz1 := frozen_heap (j := 1) HT2.out.z
  have fz2 := frozen_heap (j := 2) HT2.out.z
  have fz3 := frozen_heap (j := 3) HT2.out.z
  have r0 := cell_heap (j := 0) HT2.out.r rfl
  have ft1 := frozen_heap (j := 1) HT2.out.t_
  go_wp2_with fail
  have HT3 := hide (HT2.out.set_t (b.extract 0 n))
  refine bodyPost_ret (v := .tuple #[.agg #[.int .u8 1, .string (b.extract 0 n), .int .i64 l, .int .i64 c], .bool true, .int .i64 0]) (by simp [results, Try.results29, go_sem, z0, z1, z2, z3]) rfl ?_
  refine ⟨(HT3.out.out _ _ _ _).1, .inr ?_⟩
  rw [HST.out]
  exact ⟨rfl, _, _, T_head b n, T_tail b n, rfl, (HT3.out.out _ _ _ _).2⟩
end Go.Proofs.Ytihmmmodimionaa.Lx
