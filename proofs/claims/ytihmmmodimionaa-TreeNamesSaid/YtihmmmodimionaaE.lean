import Derived.Test.YtihmmmodimionaaD
import Derived.WalkSpells
namespace Go.Proofs.Ytihmmmodimionaa.Lx
open Go.RowKit

theorem pre_size {b : ByteArray} (h : Lib.hasPrefix (T b) [47, 42] = true) : 2 ≤ b.size := by
  have := (List.isPrefixOf_iff_prefix.1 h).length_le
  rw [T_len] at this
  simpa using this

set_option maxRecDepth 100000 in
set_option maxHeartbeats 1000000 in
theorem token_open (R : Nat) (b : ByteArray) (l c : Int) (w : World) (hb0 : 0 < b.size) (hbs : b.size ≤ 65536) (hl : 1 ≤ l) (hl2 : l + b.size ≤ 1000000) (hc : 1 ≤ c) (hc2 : c + b.size ≤ 1000000) (hr : RdR w R b l c)
    (hx : ¬ (b[0].toNat : Int) = 32 ∧ ¬ (b[0].toNat : Int) = 10 ∧ ¬ (b[0].toNat : Int) = 35) (hR : R ≠ 0) (m : Int) (hm : w.cell? ⟨0, 0, none⟩ = some (.int .i64 m)) (hp : Lib.hasPrefix (T b) [47, 42] = true) (hr0 : Lib.index ((T b).drop 2) [42, 47] < 0) (hst : step (T b) = ⟨true, false, 1, [], 0⟩) :
    Calls Try.prog 29 #[.pointer (some ⟨R, 0, none⟩)] w (TokPost R b l c w) := by
  have q0 := fun o => cell_heap (j := 0) (heap_old (p := o) hr) rfl
  have q1 := fun o o2 => cell_heap (j := 1) (heap_old (p := o2) (heap_old (p := o) hr)) rfl
  have q2 := fun o o2 => cell_heap (j := 2) (heap_old (p := o2) (heap_old (p := o) hr)) rfl
  have q3 := fun o o2 o3 => cell_heap (j := 0) (heap_old (p := o3) (heap_old (p := o2) (heap_old (p := o) hr))) rfl
  have HT0 := hide (ts_start w R b l c hr)
  have H0 := hide (fun W => Try.strings_IndexByte ⟨#[123, 125, 59, 91, 93]⟩ b[0].toNat W)
  have HST := hide hst
  clear hst
  obtain ⟨hx1', hx2', hx3'⟩ := hx
  have hx1 : ((b[0].toNat : Int) == 32) = false := beq_if (by omega)
  have hx2 : ((b[0].toNat : Int) == 10) = false := beq_if (by omega)
  have hx3 : ((b[0].toNat : Int) == 35) = false := beq_if (by omega)
  clear hr
  go_enter Try.func29, Try.ntmps29
  go_wp2_with fail
  refine (H0.out _).mono ?_; rintro e w1 ⟨rfl, hw1⟩
  have HT1 := hide (show TS w R b l c l c 1 { data := #[] } w1 by rw [hw1]; exact HT0.out)
  clear hw1 q0 q1 q2 q3 HT0 H0
  have v0 := cell_heap (j := 0) HT1.out.v rfl
  have t0 := cell_heap (j := 0) HT1.out.t_ rfl
  have t1 := cell_heap (j := 1) HT1.out.t_ rfl
  have t2 := cell_heap (j := 2) HT1.out.t_ rfl
  have t3 := cell_heap (j := 3) HT1.out.t_ rfl
  have z0 := cell_heap (j := 0) HT1.out.z rfl
  have z1 := cell_heap (j := 1) HT1.out.z rfl
  have z2 := cell_heap (j := 2) HT1.out.z rfl
  have z3 := cell_heap (j := 3) HT1.out.z rfl
  have fz0 := frozen_heap (j := 0) HT1.out.z
  have fz1 := frozen_heap (j := 1) HT1.out.z
  have fz2 := frozen_heap (j := 2) HT1.out.z
  have fz3 := frozen_heap (j := 3) HT1.out.z
  have r0 := cell_heap (j := 0) HT1.out.r rfl
  have hm1 : w1.cell? ⟨0, 0, none⟩ = some (.int .i64 m) := only_cell HT1.out.o hm (fun e => hR e.symm)
  have hsz := pre_size hp
  have hpre := Try.strings_HasPrefix b ⟨#[47, 42]⟩ w1
  rw [show Lib.hasPrefix b.data.toList (⟨#[47, 42]⟩ : ByteArray).data.toList = true from hp] at hpre
  have HPRE := hide hpre
  clear hpre
  have hix := Try.strings_Index (b.extract 2 b.size) ⟨#[42, 47]⟩ m w1 (by rw [size_T, T_tail, List.length_drop, T_len]; omega) hm1
  rw [show Lib.index (b.extract 2 b.size).data.toList (⟨#[42, 47]⟩ : ByteArray).data.toList = Lib.index ((T b).drop 2) [42, 47] by rw [← T_tail]; rfl] at hix
  have hbnd := index_bound [42, 47] ((T b).drop 2)
  rw [List.length_drop, T_len] at hbnd
  generalize Lib.index ((T b).drop 2) [42, 47] = r at *
  have HIX := hide hix
  clear hix hm1
  have hr0' : r < 0 := hr0
  clear hbnd hr0
  go_wp2_with fail
  refine HPRE.out.mono ?_; rintro e w2 ⟨rfl, rfl⟩
  go_wp2_with fail
  refine HIX.out.mono ?_; rintro e w3 ⟨rfl, rfl⟩
  go_wp2_with fail
  refine bodyPost_ret (v := .tuple #[.agg #[.int .u8 1, .string { data := #[] }, .int .i64 l, .int .i64 c], .bool false, .int .i64 71]) (by simp [results, Try.results29, go_sem, z0, z1, z2, z3]) rfl ?_
  refine ⟨(HT1.out.out _ _ _ _).1, .inl ?_⟩
  rw [HST.out]
  exact ⟨rfl, rfl⟩

set_option maxRecDepth 100000 in
set_option maxHeartbeats 1000000 in
theorem token_comment (R : Nat) (b : ByteArray) (l c : Int) (w : World) (hb0 : 0 < b.size) (hbs : b.size ≤ 65536) (hl : 1 ≤ l) (hl2 : l + b.size ≤ 1000000) (hc : 1 ≤ c) (hc2 : c + b.size ≤ 1000000) (hr : RdR w R b l c)
    (hx : ¬ (b[0].toNat : Int) = 32 ∧ ¬ (b[0].toNat : Int) = 10 ∧ ¬ (b[0].toNat : Int) = 35) (hR : R ≠ 0) (m : Int) (hm : w.cell? ⟨0, 0, none⟩ = some (.int .i64 m)) (hp : Lib.hasPrefix (T b) [47, 42] = true) (hr0 : 0 ≤ Lib.index ((T b).drop 2) [42, 47]) (hst : step (T b) = ⟨false, false, 1, [], (Lib.index ((T b).drop 2) [42, 47]).toNat + 4⟩) :
    Calls Try.prog 29 #[.pointer (some ⟨R, 0, none⟩)] w (TokPost R b l c w) := by
  have q0 := fun o => cell_heap (j := 0) (heap_old (p := o) hr) rfl
  have q1 := fun o o2 => cell_heap (j := 1) (heap_old (p := o2) (heap_old (p := o) hr)) rfl
  have q2 := fun o o2 => cell_heap (j := 2) (heap_old (p := o2) (heap_old (p := o) hr)) rfl
  have q3 := fun o o2 o3 => cell_heap (j := 0) (heap_old (p := o3) (heap_old (p := o2) (heap_old (p := o) hr))) rfl
  have HT0 := hide (ts_start w R b l c hr)
  have H0 := hide (fun W => Try.strings_IndexByte ⟨#[123, 125, 59, 91, 93]⟩ b[0].toNat W)
  have HST := hide hst
  clear hst
  obtain ⟨hx1', hx2', hx3'⟩ := hx
  have hx1 : ((b[0].toNat : Int) == 32) = false := beq_if (by omega)
  have hx2 : ((b[0].toNat : Int) == 10) = false := beq_if (by omega)
  have hx3 : ((b[0].toNat : Int) == 35) = false := beq_if (by omega)
  clear hr
  go_enter Try.func29, Try.ntmps29
  go_wp2_with fail
  refine (H0.out _).mono ?_; rintro e w1 ⟨rfl, hw1⟩
  have HT1 := hide (show TS w R b l c l c 1 { data := #[] } w1 by rw [hw1]; exact HT0.out)
  clear hw1 q0 q1 q2 q3 HT0 H0
  have v0 := cell_heap (j := 0) HT1.out.v rfl
  have t0 := cell_heap (j := 0) HT1.out.t_ rfl
  have t1 := cell_heap (j := 1) HT1.out.t_ rfl
  have t2 := cell_heap (j := 2) HT1.out.t_ rfl
  have t3 := cell_heap (j := 3) HT1.out.t_ rfl
  have z0 := cell_heap (j := 0) HT1.out.z rfl
  have z1 := cell_heap (j := 1) HT1.out.z rfl
  have z2 := cell_heap (j := 2) HT1.out.z rfl
  have z3 := cell_heap (j := 3) HT1.out.z rfl
  have fz0 := frozen_heap (j := 0) HT1.out.z
  have fz1 := frozen_heap (j := 1) HT1.out.z
  have fz2 := frozen_heap (j := 2) HT1.out.z
  have fz3 := frozen_heap (j := 3) HT1.out.z
  have r0 := cell_heap (j := 0) HT1.out.r rfl
  have hm1 : w1.cell? ⟨0, 0, none⟩ = some (.int .i64 m) := only_cell HT1.out.o hm (fun e => hR e.symm)
  have hsz := pre_size hp
  have hpre := Try.strings_HasPrefix b ⟨#[47, 42]⟩ w1
  rw [show Lib.hasPrefix b.data.toList (⟨#[47, 42]⟩ : ByteArray).data.toList = true from hp] at hpre
  have HPRE := hide hpre
  clear hpre
  have hix := Try.strings_Index (b.extract 2 b.size) ⟨#[42, 47]⟩ m w1 (by rw [size_T, T_tail, List.length_drop, T_len]; omega) hm1
  rw [show Lib.index (b.extract 2 b.size).data.toList (⟨#[42, 47]⟩ : ByteArray).data.toList = Lib.index ((T b).drop 2) [42, 47] by rw [← T_tail]; rfl] at hix
  have hbnd := index_bound [42, 47] ((T b).drop 2)
  rw [List.length_drop, T_len] at hbnd
  generalize Lib.index ((T b).drop 2) [42, 47] = r at *
  have HIX := hide hix
  clear hix hm1
  obtain ⟨n, rfl⟩ := Int.eq_ofNat_of_zero_le hr0
  have hn : n + 4 ≤ b.size := by have := hbnd hr0; simp at this; omega
  clear hbnd hr0
  go_wp2_with fail
  refine HPRE.out.mono ?_; rintro e w2 ⟨rfl, rfl⟩
  go_wp2_with fail
  refine HIX.out.mono ?_; rintro e w3 ⟨rfl, rfl⟩
  go_wp2_with fail
  refine (take_int R b _ (n + 4) l c _ (by omega) hn hl (by omega) hc (by omega) HT1.out.r).mono ?_; rintro e w2 ⟨rfl, ho, hr2⟩
  have HT2 := hide (HT1.out.took ho hr2)
  clear ho hr2 HT1 HPRE HIX
  clear v0 t0 t1 t2 t3 z0 z1 z2 z3 fz0 fz1 fz2 fz3 r0
  have v0 := cell_heap (j := 0) HT2.out.v rfl
  have t0 := cell_heap (j := 0) HT2.out.t_ rfl
  have t1 := cell_heap (j := 1) HT2.out.t_ rfl
  have t2 := cell_heap (j := 2) HT2.out.t_ rfl
  have t3 := cell_heap (j := 3) HT2.out.t_ rfl
  have z0 := cell_heap (j := 0) HT2.out.z rfl
  have z1 := cell_heap (j := 1) HT2.out.z rfl
  have z2 := cell_heap (j := 2) HT2.out.z rfl
  have z3 := cell_heap (j := 3) HT2.out.z rfl
  have fz0 := frozen_heap (j := 0) HT2.out.z
  have fz1 := frozen_heap (j := 1) HT2.out.z
  have fz2 := frozen_heap (j := 2) HT2.out.z
  have fz3 := frozen_heap (j := 3) HT2.out.z
  have r0 := cell_heap (j := 0) HT2.out.r rfl
  go_wp2_with fail
  refine bodyPost_ret (v := .tuple #[.agg #[.int .u8 1, .string { data := #[] }, .int .i64 l, .int .i64 c], .bool false, .int .i64 0]) (by simp [results, Try.results29, go_sem, z0, z1, z2, z3]) rfl ?_
  refine ⟨(HT2.out.out _ _ _ _).1, .inr ?_⟩
  rw [HST.out]
  exact ⟨rfl, _, _, rfl, T_tail b (n + 4), rfl, (HT2.out.out _ _ _ _).2⟩
end Go.Proofs.Ytihmmmodimionaa.Lx
