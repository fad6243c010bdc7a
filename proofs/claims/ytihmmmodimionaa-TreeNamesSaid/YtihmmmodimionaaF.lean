import Derived.Test.YtihmmmodimionaaE
namespace Go.Proofs.Ytihmmmodimionaa.Lx
open Go.RowKit

set_option maxRecDepth 100000 in
set_option maxHeartbeats 1000000 in
theorem token_q1 (R : Nat) (b : ByteArray) (l c : Int) (w : World) (hb0 : 0 < b.size) (hbs : b.size ≤ 65536) (hl : 1 ≤ l) (hl2 : l + b.size ≤ 1000000) (hc : 1 ≤ c) (hc2 : c + b.size ≤ 1000000) (hr : RdR w R b l c)
    (hx : (b[0].toNat : Int) = 34) (hasc : ∀ (j : Nat) (x : UInt8), ((T b).drop 1)[j]? = some x → x.toNat < 128) (hp : Lib.hasPrefix (T b) [47, 42] = false) (hr0 : Lib.indexAny ((T b).drop 1) [34, 10] < 0) (hst : step (T b) = ⟨true, false, 1, [], 0⟩) :
    Calls Try.prog 29 #[.pointer (some ⟨R, 0, none⟩)] w (TokPost R b l c w) := by
  have q0 := fun o => cell_heap (j := 0) (heap_old (p := o) hr) rfl
  have q1 := fun o o2 => cell_heap (j := 1) (heap_old (p := o2) (heap_old (p := o) hr)) rfl
  have q2 := fun o o2 => cell_heap (j := 2) (heap_old (p := o2) (heap_old (p := o) hr)) rfl
  have q3 := fun o o2 o3 => cell_heap (j := 0) (heap_old (p := o3) (heap_old (p := o2) (heap_old (p := o) hr))) rfl
  have HT0 := hide (ts_start w R b l c hr)
  have H0 := hide (fun W => Try.strings_IndexByte ⟨#[123, 125, 59, 91, 93]⟩ b[0].toNat W)
  have HST := hide hst
  clear hst
  have hx1 : ((b[0].toNat : Int) == 32) = false := beq_if (by omega)
  have hx2 : ((b[0].toNat : Int) == 10) = false := beq_if (by omega)
  have hx3 : ((b[0].toNat : Int) == 35) = false := beq_if (by omega)
  have hx4 := beq_it hx
  clear hx
  clear hr
  go_enter Try.func29, Try.ntmps29
  go_wp2_with fail
  refine (H0.out _).mono ?_; rintro e w1 ⟨rfl, hw1⟩
  have HT1 := hide (show TS w R b l c l c 1 { data := #[] } w1 by rw [hw1]; exact HT0.out)
  clear hw1 q0 q1 q2 q3 HT0 H0
  have v0 := cell_heap (j := 0) HT1.out.v rfl
  have t0 := cell_heap (j := 0) HT1.out.t_ rfl
  have t1 := cell_heap (j := 1) HT1.out.t_ rfl
  have t2 := cell_heap (j := 2) HT1.out.t_ rfl
  have t3 := cell_heap (j := 3) HT1.out.t_ rfl
  have z0 := cell_heap (j := 0) HT1.out.z rfl
  have z1 := cell_heap (j := 1) HT1.out.z rfl
  have z2 := cell_heap (j := 2) HT1.out.z rfl
  have z3 := cell_heap (j := 3) HT1.out.z rfl
  have fz0 := frozen_heap (j := 0) HT1.out.z
  have fz1 := frozen_heap (j := 1) HT1.out.z
  have fz2 := frozen_heap (j := 2) HT1.out.z
  have fz3 := frozen_heap (j := 3) HT1.out.z
  have r0 := cell_heap (j := 0) HT1.out.r rfl
  have hpre := Try.strings_HasPrefix b ⟨#[47, 42]⟩ w1
  rw [show Lib.hasPrefix b.data.toList (⟨#[47, 42]⟩ : ByteArray).data.toList = false from hp] at hpre
  have HPRE := hide hpre
  clear hpre
  have hix := Try.strings_IndexAny_laid (b.extract 1 b.size) ⟨#[34, 10]⟩ w1 (by rw [size_T, T_tail, List.length_drop, T_len]; omega) (by decide) (by rw [show (b.extract 1 b.size).data.toList = (T b).drop 1 from T_tail b 1]; exact hasc) (by
    intro j x hj
    have hx5 : x ∈ [(34 : UInt8), 10] := List.mem_of_getElem? hj
    simp at hx5
    rcases hx5 with rfl | rfl <;> decide)
  rw [show Lib.indexAny (b.extract 1 b.size).data.toList (⟨#[34, 10]⟩ : ByteArray).data.toList = Lib.indexAny ((T b).drop 1) [34, 10] by rw [← T_tail]; rfl] at hix
  have hbnd := indexAny_bound [34, 10] ((T b).drop 1)
  rw [List.length_drop, T_len] at hbnd
  clear hasc
  generalize Lib.indexAny ((T b).drop 1) [34, 10] = r at *
  have HIX := hide hix
  clear hix
  have hr0' : r < 0 := hr0
  clear hbnd hr0
  go_wp2_with fail
  refine HPRE.out.mono ?_; rintro e w2 ⟨rfl, rfl⟩
  go_wp2_with fail
  refine HIX.out.mono ?_; rintro e w3 ⟨rfl, hb3⟩
  have HT2 := hide (HT1.out.took (only_of_below hb3) (heapB hb3 HT1.out.r))
  clear hb3 HT1 HPRE HIX
  clear v0 t0 t1 t2 t3 z0 z1 z2 z3 fz0 fz1 fz2 fz3 r0
  have v0 := cell_heap (j := 0) HT2.out.v rfl
  have t0 := cell_heap (j := 0) HT2.out.t_ rfl
  have t1 := cell_heap (j := 1) HT2.out.t_ rfl
  have t2 := cell_heap (j := 2) HT2.out.t_ rfl
  have t3 := cell_heap (j := 3) HT2.out.t_ rfl
  have z0 := cell_heap (j := 0) HT2.out.z rfl
  have z1 := cell_heap (j := 1) HT2.out.z rfl
  have z2 := cell_heap (j := 2) HT2.out.z rfl
  have z3 := cell_heap (j := 3) HT2.out.z rfl
  have fz0 := frozen_heap (j := 0) HT2.out.z
  have fz1 := frozen_heap (j := 1) HT2.out.z
  have fz2 := frozen_heap (j := 2) HT2.out.z
  have fz3 := frozen_heap (j := 3) HT2.out.z
  have r0 := cell_heap (j := 0) HT2.out.r rfl
  go_wp2_with fail
  refine bodyPost_ret (v := .tuple #[.agg #[.int .u8 1, .string { data := #[] }, .int .i64 l, .int .i64 c], .bool false, .int .i64 71]) (by simp [results, Try.results29, go_sem, z0, z1, z2, z3]) rfl ?_
  refine ⟨(HT2.out.out _ _ _ _).1, .inl ?_⟩
  rw [HST.out]
  exact ⟨rfl, rfl⟩

set_option maxRecDepth 100000 in
set_option maxHeartbeats 1000000 in
theorem token_q2 (R : Nat) (b : ByteArray) (l c : Int) (w : World) (hb0 : 0 < b.size) (hbs : b.size ≤ 65536) (hl : 1 ≤ l) (hl2 : l + b.size ≤ 1000000) (hc : 1 ≤ c) (hc2 : c + b.size ≤ 1000000) (hr : RdR w R b l c)
    (hx : (b[0].toNat : Int) = 34) (hasc : ∀ (j : Nat) (x : UInt8), ((T b).drop 1)[j]? = some x → x.toNat < 128) (hp : Lib.hasPrefix (T b) [47, 42] = false) (hr0 : 0 ≤ Lib.indexAny ((T b).drop 1) [34, 10]) (h10 : (T b).getD ((Lib.indexAny ((T b).drop 1) [34, 10]).toNat + 1) 0 = 10) (hst : step (T b) = ⟨true, false, 1, [], 0⟩) :
    Calls Try.prog 29 #[.pointer (some ⟨R, 0, none⟩)] w (TokPost R b l c w) := by
  have q0 := fun o => cell_heap (j := 0) (heap_old (p := o) hr) rfl
  have q1 := fun o o2 => cell_heap (j := 1) (heap_old (p := o2) (heap_old (p := o) hr)) rfl
  have q2 := fun o o2 => cell_heap (j := 2) (heap_old (p := o2) (heap_old (p := o) hr)) rfl
  have q3 := fun o o2 o3 => cell_heap (j := 0) (heap_old (p := o3) (heap_old (p := o2) (heap_old (p := o) hr))) rfl
  have HT0 := hide (ts_start w R b l c hr)
  have H0 := hide (fun W => Try.strings_IndexByte ⟨#[123, 125, 59, 91, 93]⟩ b[0].toNat W)
  have HST := hide hst
  clear hst
  have hx1 : ((b[0].toNat : Int) == 32) = false := beq_if (by omega)
  have hx2 : ((b[0].toNat : Int) == 10) = false := beq_if (by omega)
  have hx3 : ((b[0].toNat : Int) == 35) = false := beq_if (by omega)
  have hx4 := beq_it hx
  clear hx
  clear hr
  go_enter Try.func29, Try.ntmps29
  go_wp2_with fail
  refine (H0.out _).mono ?_; rintro e w1 ⟨rfl, hw1⟩
  have HT1 := hide (show TS w R b l c l c 1 { data := #[] } w1 by rw [hw1]; exact HT0.out)
  clear hw1 q0 q1 q2 q3 HT0 H0
  have v0 := cell_heap (j := 0) HT1.out.v rfl
  have t0 := cell_heap (j := 0) HT1.out.t_ rfl
  have t1 := cell_heap (j := 1) HT1.out.t_ rfl
  have t2 := cell_heap (j := 2) HT1.out.t_ rfl
  have t3 := cell_heap (j := 3) HT1.out.t_ rfl
  have z0 := cell_heap (j := 0) HT1.out.z rfl
  have z1 := cell_heap (j := 1) HT1.out.z rfl
  have z2 := cell_heap (j := 2) HT1.out.z rfl
  have z3 := cell_heap (j := 3) HT1.out.z rfl
  have fz0 := frozen_heap (j := 0) HT1.out.z
  have fz1 := frozen_heap (j := 1) HT1.out.z
  have fz2 := frozen_heap (j := 2) HT1.out.z
  have fz3 := frozen_heap (j := 3) HT1.out.z
  have r0 := cell_heap (j := 0) HT1.out.r rfl
  have hpre := Try.strings_HasPrefix b ⟨#[47, 42]⟩ w1
  rw [show Lib.hasPrefix b.data.toList (⟨#[47, 42]⟩ : ByteArray).data.toList = false from hp] at hpre
  have HPRE := hide hpre
  clear hpre
  have hix := Try.strings_IndexAny_laid (b.extract 1 b.size) ⟨#[34, 10]⟩ w1 (by rw [size_T, T_tail, List.length_drop, T_len]; omega) (by decide) (by rw [show (b.extract 1 b.size).data.toList = (T b).drop 1 from T_tail b 1]; exact hasc) (by
    intro j x hj
    have hx5 : x ∈ [(34 : UInt8), 10] := List.mem_of_getElem? hj
    simp at hx5
    rcases hx5 with rfl | rfl <;> decide)
  rw [show Lib.indexAny (b.extract 1 b.size).data.toList (⟨#[34, 10]⟩ : ByteArray).data.toList = Lib.indexAny ((T b).drop 1) [34, 10] by rw [← T_tail]; rfl] at hix
  have hbnd := indexAny_bound [34, 10] ((T b).drop 1)
  rw [List.length_drop, T_len] at hbnd
  clear hasc
  generalize Lib.indexAny ((T b).drop 1) [34, 10] = r at *
  have HIX := hide hix
  clear hix
  obtain ⟨n, rfl⟩ := Int.eq_ofNat_of_zero_le hr0
  have hn : n + 1 < b.size := by have := hbnd hr0; simp at this; omega
  simp only [Int.toNat_natCast] at h10
  have hget : (T b).getD (n + 1) 0 = b[n + 1] := by rw [List.getD_eq_getElem?_getD, T_get b (n + 1) hn]; rfl
  rw [hget] at h10
  have hx6 : ((b[n + 1].toNat : Int) == 10) = true := beq_it (by have := (eq10 _).1 h10; omega)
  clear hbnd hr0 h10 hget
  go_wp2_with fail
  refine HPRE.out.mono ?_; rintro e w2 ⟨rfl, rfl⟩
  go_wp2_with fail
  refine HIX.out.mono ?_; rintro e w3 ⟨rfl, hb3⟩
  have HT2 := hide (HT1.out.took (only_of_below hb3) (heapB hb3 HT1.out.r))
  clear hb3 HT1 HPRE HIX
  clear v0 t0 t1 t2 t3 z0 z1 z2 z3 fz0 fz1 fz2 fz3 r0
  have v0 := cell_heap (j := 0) HT2.out.v rfl
  have t0 := cell_heap (j := 0) HT2.out.t_ rfl
  have t1 := cell_heap (j := 1) HT2.out.t_ rfl
  have t2 := cell_heap (j := 2) HT2.out.t_ rfl
  have t3 := cell_heap (j := 3) HT2.out.t_ rfl
  have z0 := cell_heap (j := 0) HT2.out.z rfl
  have z1 := cell_heap (j := 1) HT2.out.z rfl
  have z2 := cell_heap (j := 2) HT2.out.z rfl
  have z3 := cell_heap (j := 3) HT2.out.z rfl
  have fz0 := frozen_heap (j := 0) HT2.out.z
  have fz1 := frozen_heap (j := 1) HT2.out.z
  have fz2 := frozen_heap (j := 2) HT2.out.z
  have fz3 := frozen_heap (j := 3) HT2.out.z
  have r0 := cell_heap (j := 0) HT2.out.r rfl
  go_wp2_with fail
  refine bodyPost_ret (v := .tuple #[.agg #[.int .u8 1, .string { data := #[] }, .int .i64 l, .int .i64 c], .bool false, .int .i64 71]) (by simp [results, Try.results29, go_sem, z0, z1, z2, z3]) rfl ?_
  refine ⟨(HT2.out.out _ _ _ _).1, .inl ?_⟩
  rw [HST.out]
  exact ⟨rfl, rfl⟩

set_option maxRecDepth 100000 in
set_option maxHeartbeats 1000000 in
theorem token_q3 (R : Nat) (b : ByteArray) (l c : Int) (w : World) (hb0 : 0 < b.size) (hbs : b.size ≤ 65536) (hl : 1 ≤ l) (hl2 : l + b.size ≤ 1000000) (hc : 1 ≤ c) (hc2 : c + b.size ≤ 1000000) (hr : RdR w R b l c)
    (hx : (b[0].toNat : Int) = 34) (hasc : ∀ (j : Nat) (x : UInt8), ((T b).drop 1)[j]? = some x → x.toNat < 128) (hp : Lib.hasPrefix (T b) [47, 42] = false) (hr0 : 0 ≤ Lib.indexAny ((T b).drop 1) [34, 10]) (h10 : ¬ (T b).getD ((Lib.indexAny ((T b).drop 1) [34, 10]).toNat + 1) 0 = 10) (hst : step (T b) = ⟨false, true, 1, ((T b).drop 1).take (Lib.indexAny ((T b).drop 1) [34, 10]).toNat, (Lib.indexAny ((T b).drop 1) [34, 10]).toNat + 2⟩) :
    Calls Try.prog 29 #[.pointer (some ⟨R, 0, none⟩)] w (TokPost R b l c w) := by
  have q0 := fun o => cell_heap (j := 0) (heap_old (p := o) hr) rfl
  have q1 := fun o o2 => cell_heap (j := 1) (heap_old (p := o2) (heap_old (p := o) hr)) rfl
  have q2 := fun o o2 => cell_heap (j := 2) (heap_old (p := o2) (heap_old (p := o) hr)) rfl
  have q3 := fun o o2 o3 => cell_heap (j := 0) (heap_old (p := o3) (heap_old (p := o2) (heap_old (p := o) hr))) rfl
  have HT0 := hide (ts_start w R b l c hr)
  have H0 := hide (fun W => Try.strings_IndexByte ⟨#[123, 125, 59, 91, 93]⟩ b[0].toNat W)
  have HST := hide hst
  clear hst
  have hx1 : ((b[0].toNat : Int) == 32) = false := beq_if (by omega)
  have hx2 : ((b[0].toNat : Int) == 10) = false := beq_if (by omega)
  have hx3 : ((b[0].toNat : Int) == 35) = false := beq_if (by omega)
  have hx4 := beq_it hx
  clear hx
  clear hr
  go_enter Try.func29, Try.ntmps29
  go_wp2_with fail
  refine (H0.out _).mono ?_; rintro e w1 ⟨rfl, hw1⟩
  have HT1 := hide (show TS w R b l c l c 1 { data := #[] } w1 by rw [hw1]; exact HT0.out)
  clear hw1 q0 q1 q2 q3 HT0 H0
  have v0 := cell_heap (j := 0) HT1.out.v rfl
  have t0 := cell_heap (j := 0) HT1.out.t_ rfl
  have t1 := cell_heap (j := 1) HT1.out.t_ rfl
  have t2 := cell_heap (j := 2) HT1.out.t_ rfl
  have t3 := cell_heap (j := 3) HT1.out.t_ rfl
  have z0 := cell_heap (j := 0) HT1.out.z rfl
  have z1 := cell_heap (j := 1) HT1.out.z rfl
  have z2 := cell_heap (j := 2) HT1.out.z rfl
  have z3 := cell_heap (j := 3) HT1.out.z rfl
  have fz0 := frozen_heap (j := 0) HT1.out.z
  have fz1 := frozen_heap (j := 1) HT1.out.z
  have fz2 := frozen_heap (j := 2) HT1.out.z
  have fz3 := frozen_heap (j := 3) HT1.out.z
  have r0 := cell_heap (j := 0) HT1.out.r rfl
  have hpre := Try.strings_HasPrefix b ⟨#[47, 42]⟩ w1
  rw [show Lib.hasPrefix b.data.toList (⟨#[47, 42]⟩ : ByteArray).data.toList = false from hp] at hpre
  have HPRE := hide hpre
  clear hpre
  have hix := Try.strings_IndexAny_laid (b.extract 1 b.size) ⟨#[34, 10]⟩ w1 (by rw [size_T, T_tail, List.length_drop, T_len]; omega) (by decide) (by rw [show (b.extract 1 b.size).data.toList = (T b).drop 1 from T_tail b 1]; exact hasc) (by
    intro j x hj
    have hx5 : x ∈ [(34 : UInt8), 10] := List.mem_of_getElem? hj
    simp at hx5
    rcases hx5 with rfl | rfl <;> decide)
  rw [show Lib.indexAny (b.extract 1 b.size).data.toList (⟨#[34, 10]⟩ : ByteArray).data.toList = Lib.indexAny ((T b).drop 1) [34, 10] by rw [← T_tail]; rfl] at hix
  have hbnd := indexAny_bound [34, 10] ((T b).drop 1)
  rw [List.length_drop, T_len] at hbnd
  clear hasc
  generalize Lib.indexAny ((T b).drop 1) [34, 10] = r at *
  have HIX := hide hix
  clear hix
  obtain ⟨n, rfl⟩ := Int.eq_ofNat_of_zero_le hr0
  have hn : n + 1 < b.size := by have := hbnd hr0; simp at this; omega
  simp only [Int.toNat_natCast] at h10
  have hget : (T b).getD (n + 1) 0 = b[n + 1] := by rw [List.getD_eq_getElem?_getD, T_get b (n + 1) hn]; rfl
  rw [hget] at h10
  have hx6 : ((b[n + 1].toNat : Int) == 10) = false := beq_if (by intro e'; exact h10 ((eq10 _).2 (by omega)))
  have hes : Hid ((b.extract 0 (n + 2)).size = n + 2) := by show _ = _; rw [size_T, T_head, List.length_take, T_len]; omega
  have het : Hid (T ((b.extract 0 (n + 2)).extract 1 (n + 1)) = ((T b).drop 1).take n) := by
    show _ = _
    rw [T_extract, T_head, List.take_take, Nat.min_eq_left (by omega), List.drop_take]
    rfl
  clear hbnd hr0 h10 hget
  go_wp2_with fail
  refine HPRE.out.mono ?_; rintro e w2 ⟨rfl, rfl⟩
  go_wp2_with fail
  refine HIX.out.mono ?_; rintro e w3 ⟨rfl, hb3⟩
  have HT2 := hide (HT1.out.took (only_of_below hb3) (heapB hb3 HT1.out.r))
  clear hb3 HT1 HPRE HIX
  clear v0 t0 t1 t2 t3 z0 z1 z2 z3 fz0 fz1 fz2 fz3 r0
  have v0 := cell_heap (j := 0) HT2.out.v rfl
  have t0 := cell_heap (j := 0) HT2.out.t_ rfl
  have t1 := cell_heap (j := 1) HT2.out.t_ rfl
  have t2 := cell_heap (j := 2) HT2.out.t_ rfl
  have t3 := cell_heap (j := 3) HT2.out.t_ rfl
  have z0 := cell_heap (j := 0) HT2.out.z rfl
  have z1 := cell_heap (j := 1) HT2.out.z rfl
  have z2 := cell_heap (j := 2) HT2.out.z rfl
  have z3 := cell_heap (j := 3) HT2.out.z rfl
  have fz0 := frozen_heap (j := 0) HT2.out.z
  have fz1 := frozen_heap (j := 1) HT2.out.z
  have fz2 := frozen_heap (j := 2) HT2.out.z
  have fz3 := frozen_heap (j := 3) HT2.out.z
  have r0 := cell_heap (j := 0) HT2.out.r rfl
  go_wp2_with fail
  refine (take_int R b _ (n + 2) l c _ (by omega) (by omega) hl (by omega) hc (by omega) HT2.out.r).mono ?_; rintro e w4 ⟨rfl, ho, hr2⟩
  generalize b.extract 0 (n + 2) = bq at *
  have hes1 : n + 1 ≤ bq.size := by have := hes.out; omega
  have HT3 := hide (HT2.out.took ho hr2)
  clear ho hr2 HT2
  clear v0 t0 t1 t2 t3 z0 z1 z2 z3 fz0 fz1 fz2 fz3 r0
  have v0 := cell_heap (j := 0) HT3.out.v rfl
  have t0 := cell_heap (j := 0) HT3.out.t_ rfl
  have t1 := cell_heap (j := 1) HT3.out.t_ rfl
  have t2 := cell_heap (j := 2) HT3.out.t_ rfl
  have t3 := cell_heap (j := 3) HT3.out.t_ rfl
  have z0 := cell_heap (j := 0) HT3.out.z rfl
  have z1 := cell_heap (j := 1) HT3.out.z rfl
  have z2 := cell_heap (j := 2) HT3.out.z rfl
  have z3 := cell_heap (j := 3) HT3.out.z rfl
  have fz0 := frozen_heap (j := 0) HT3.out.z
  have fz1 := frozen_heap (j := 1) HT3.out.z
  have fz2 := frozen_heap (j := 2) HT3.out.z
  have fz3 := frozen_heap (j := 3) HT3.out.z
  have r0 := cell_heap (j := 0) HT3.out.r rfl
  have ft1 := frozen_heap (j := 1) HT3.out.t_
  go_wp2_with fail
  have HT4 := hide (HT3.out.set_t (bq.extract 1 (n + 1)))
  refine bodyPost_ret (v := .tuple #[.agg #[.int .u8 1, .string (bq.extract 1 (n + 1)), .int .i64 l, .int .i64 c], .bool true, .int .i64 0]) (by simp [results, Try.results29, go_sem, z0, z1, z2, z3]) rfl ?_
  refine ⟨(HT4.out.out _ _ _ _).1, .inr ?_⟩
  rw [HST.out]
  exact ⟨rfl, _, _, het.out, T_tail b (n + 2), rfl, (HT4.out.out _ _ _ _).2⟩
end Go.Proofs.Ytihmmmodimionaa.Lx
