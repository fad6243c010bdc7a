import Derived.Test.YtihmmmodimionaaDoorNM
import Derived.Deep.LoopGhost
import Derived.Outline
import Derived.IntWalk
namespace Go.Proofs.YtihmmmodimionaaDoor.Lx
open Go.RowKit

theorem valid_err : Utf8.valid ((Utf8.runeError : Nat) : Int) = true := by simp [Utf8.valid, Utf8.runeError]
theorem decode_valid (s : ByteArray) (pos : Nat) (h : pos < s.size) (ha : 128 ≤ (s[pos]'h).toNat) : Utf8.valid (Utf8.decode s pos).1 = true := by
  have hn : ¬ (s[pos]'h).toNat < 128 := by omega
  have hb : ∀ k, (s.get! (pos + k)).toNat < 256 := fun k => (s.get! (pos + k)).toNat_lt
  have h1 := hb 1
  simp only [Utf8.decode, get_at s pos h, hn, if_false]
  have hz := (s[pos]'h).toNat_lt
  repeat' split
  all_goals first
    | with_reducible exact valid_err
    | (simp only [Utf8.valid, Bool.or_eq_true, Bool.and_eq_true, decide_eq_true_eq]
       left
       omega)
    | (rename_i hh
       exact (Bool.and_eq_true_iff.1 hh).2)

theorem low_at : ∀ (i : Nat) (h : i < (⟨#[45, 95, 46, 47]⟩ : ByteArray).size), ((⟨#[45, 95, 46, 47]⟩ : ByteArray)[i]'h).toNat < 128 := by
  intro i h
  match i, h with
  | 0, _ => show (45 : UInt8).toNat < 128; decide
  | 1, _ => show (95 : UInt8).toNat < 128; decide
  | 2, _ => show (46 : UInt8).toNat < 128; decide
  | 3, _ => show (47 : UInt8).toNat < 128; decide
  | i + 4, h => exact absurd h (by show ¬ i + 4 < 4; omega)
theorem indexByte_no {l : List UInt8} {c : UInt8} (h : ∀ x ∈ l, x ≠ c) : Lib.indexByte l c = -1 := by
  have hc : l.contains c = false := by
    rw [Bool.eq_false_iff]
    intro he
    exact h c (by simpa using he) rfl
  rw [Lib.contains_iff_indexByte] at hc
  have := Lib.indexByte_ge l c
  simp at hc
  omega

set_option maxRecDepth 100000 in
set_option maxHeartbeats 2000000 in
theorem irune_high (r : Int) (w : World) (h : 128 ≤ r) (hv : Utf8.valid r = true) :
    Calls Tryd.prog 29 #[.string ⟨#[45, 95, 46, 47]⟩, .int .i32 r] w fun e w' => e = .returned (.int .i64 (-1)) ∧ Below w.heap.size w w' := by
  have hr : r ≤ 1114111 := by
    simp only [Utf8.valid, Bool.or_eq_true, Bool.and_eq_true, decide_eq_true_eq] at hv
    omega
  by_cases he : r = 65533
  · subst he
    clear hv hr h
    go_enter Tryd.func29, Tryd.ntmps29
    go_wp2_with fail
    go_loopw [5] (fun _ wr => ∃ pos : Nat, pos ≤ 4 ∧ wr = w.iter ⟨#[45, 95, 46, 47]⟩ pos) (fun _ wr => 4 - wr.iterPos w.heap.size)
    case atStart => exact ⟨0, by omega, rfl⟩
    case round =>
      obtain ⟨pos, hp, rfl⟩ := hrel
      match pos, hp with
      | 0, _ =>
        have hnx : ∀ ty, (Instr.next (.pointer (some ⟨w.heap.size, 0, none⟩)) true ty).run Tryd.prog (w.iter ⟨#[45, 95, 46, 47]⟩ 0) = .ok (.tuple #[.bool true, .int .i64 0, .int .i32 45]) (w.iter ⟨#[45, 95, 46, 47]⟩ 1) := fun ty => run_next_ascii w ⟨#[45, 95, 46, 47]⟩ 0 ty (by decide) (by decide)
        go_wp2_with fail
        go_roundw
        case rel => exact ⟨1, by omega, rfl⟩
        case measure => simp
      | 1, _ =>
        have hnx : ∀ ty, (Instr.next (.pointer (some ⟨w.heap.size, 0, none⟩)) true ty).run Tryd.prog (w.iter ⟨#[45, 95, 46, 47]⟩ 1) = .ok (.tuple #[.bool true, .int .i64 1, .int .i32 95]) (w.iter ⟨#[45, 95, 46, 47]⟩ 2) := fun ty => run_next_ascii w ⟨#[45, 95, 46, 47]⟩ 1 ty (by decide) (by decide)
        go_wp2_with fail
        go_roundw
        case rel => exact ⟨2, by omega, rfl⟩
        case measure => simp
      | 2, _ =>
        have hnx : ∀ ty, (Instr.next (.pointer (some ⟨w.heap.size, 0, none⟩)) true ty).run Tryd.prog (w.iter ⟨#[45, 95, 46, 47]⟩ 2) = .ok (.tuple #[.bool true, .int .i64 2, .int .i32 46]) (w.iter ⟨#[45, 95, 46, 47]⟩ 3) := fun ty => run_next_ascii w ⟨#[45, 95, 46, 47]⟩ 2 ty (by decide) (by decide)
        go_wp2_with fail
        go_roundw
        case rel => exact ⟨3, by omega, rfl⟩
        case measure => simp
      | 3, _ =>
        have hnx : ∀ ty, (Instr.next (.pointer (some ⟨w.heap.size, 0, none⟩)) true ty).run Tryd.prog (w.iter ⟨#[45, 95, 46, 47]⟩ 3) = .ok (.tuple #[.bool true, .int .i64 3, .int .i32 47]) (w.iter ⟨#[45, 95, 46, 47]⟩ 4) := fun ty => run_next_ascii w ⟨#[45, 95, 46, 47]⟩ 3 ty (by decide) (by decide)
        go_wp2_with fail
        go_roundw
        case rel => exact ⟨4, by omega, rfl⟩
        case measure => simp
      | 4, _ =>
        have hnx : ∀ ty, (Instr.next (.pointer (some ⟨w.heap.size, 0, none⟩)) true ty).run Tryd.prog (w.iter ⟨#[45, 95, 46, 47]⟩ 4) = .ok (.tuple #[.bool false]) (w.iter ⟨#[45, 95, 46, 47]⟩ 4) := fun ty => run_next_end w ⟨#[45, 95, 46, 47]⟩ 4 ty (by decide)
        go_wp2_with fail
        go_ret
        exact ⟨rfl, bel_one _ _⟩
  · have hvr := hv
    rw [validRune_eq] at hvr
    have HVR := hide (Tryd.utf8_ValidRune r)
    rw [show Lib.validRune r = true by exact hvr] at HVR
    have hf := encode_facts r hv h
    have he' : (r == 65533) = false := beq_if he
    have HE : Hid (∀ (i j : Nat) (w : World), ∀ hj : j < (Utf8.encode r).size, j = (Utf8.encode r).size - 1 → Calls Tryd.prog 40 #[.string ((⟨#[45, 95, 46, 47]⟩ : ByteArray).extract i 4), .int .u8 ((Utf8.encode r)[j]'hj).toNat] w fun e w' => e = .returned (.int .i64 (-1)) ∧ w' = w) := by
      intro i j W hj hje
      have hb : 128 ≤ ((Utf8.encode r)[j]'hj).toNat := by
        subst hje
        exact hf.2.2 hj
      have h1 := Tryd.strings_IndexByte ((⟨#[45, 95, 46, 47]⟩ : ByteArray).extract i 4) ((Utf8.encode r)[j]'hj).toNat W
      have e1 : Lib.indexByte ((⟨#[45, 95, 46, 47]⟩ : ByteArray).extract i 4).data.toList (((Utf8.encode r)[j]'hj).toNat : Int).toNat.toUInt8 = -1 := by
        refine indexByte_no (fun x hx => ?_)
        have hx' : x ∈ T ((⟨#[45, 95, 46, 47]⟩ : ByteArray).extract i 4) := hx
        rw [T_extract] at hx'
        have hx2 := List.mem_of_mem_take (List.mem_of_mem_drop hx')
        have hx3 : x = 45 ∨ x = 95 ∨ x = 46 ∨ x = 47 := by simpa [T] using hx2
        intro he
        rw [he] at hx3
        simp at hx3
        rcases hx3 with h | h | h | h <;> (rw [h] at hb; exact absurd hb (by decide))
      rw [e1] at h1
      exact h1
    obtain ⟨hf1, hf2, hf3⟩ := hf
    have hlt0 : decide (r < 128) = false := by simp; omega
    have hge0 : 0 ≤ r := by omega
    have hge1 : decide (0 ≤ r) = true := by simp; omega
    have HF3 := hide hf3
    have hsz1 : (0 : Int) ≤ ((Utf8.encode r).size : Int) - 1 := by omega
    clear hv hvr he hf3
    go_enter Tryd.func29, Tryd.ntmps29
    go_wp2_with fail
    refine (HVR.out _).mono ?_; rintro e w1 ⟨rfl, rfl⟩
    go_wp2_with fail
    go_step3
    go_wp2_with fail
    generalize Utf8.encode r = c0 at *
    have hq0 : (c0.size : Int) - 1 = ((c0.size - 1 : Nat) : Int) := by omega
    obtain ⟨q, hq⟩ : ∃ q : Nat, c0.size - 1 = q := ⟨_, rfl⟩
    rw [hq] at hq0
    generalize (c0.size : Int) - 1 = z at *
    subst hq0
    have hq4 : q < 4 := by omega
    have hqs : q < c0.size := by omega
    have hlow := low_at q (by show _ < 4; omega)
    have hhi : 128 ≤ (c0[q]'hqs).toNat := by
      subst hq
      exact HF3.out (by omega)
    have hneq : ((((⟨#[45, 95, 46, 47]⟩ : ByteArray)[q]'(by show _ < 4; omega)).toNat : Int) != ((c0[q]'hqs).toNat : Int)) = true := by
      rw [bne, beq_if (by omega)]; rfl
    have HQ := hide hq
    have HEQ := hide (HE.out (q + 1) q · hqs HQ.out.symm)
    clear hlow hhi hq
    go_loopg [9, 10] 0 (fun _ x y wr => x = .int .i64 q ∧ y = .int .i64 0 ∧ wr = w1)
    case atStart => exact ⟨rfl, rfl, rfl⟩
    case round =>
      obtain ⟨rfl, rfl, rfl⟩ := hrel
      go_wp2_with fail
      go_step3
      go_wp2_with fail
      refine wp_region_lat (by kernel_rfl) (by kernel_rfl) ?_
      repeat (first | go_big_quiet_step ((fail)) | quiet_step ((fail)))
      refine wpQuiet_nil ?_
      intro _ hlat
      obtain ⟨wq, rfl⟩ := hlat
      have hsum : IntKind.i64.wrap ((q : Int) + 1) = (q : Int) + 1 := IntWalk.i64_in _ (by omega)
      have hsn : ((q : Int) + 1).toNat = q + 1 := by omega
      have hs0 : (0 : Int) ≤ (q : Int) + 1 := by omega
      have hs4 : (q : Int) + 1 ≤ 4 := by omega
      have HBL := hide (lat_below wr wq)
      generalize lat wr wq = wl at *
      go_wp2_with fail
      refine wp_region_lat (by kernel_rfl) (by kernel_rfl) ?_
      repeat (first | go_big_quiet_step ((exact calls_lat_same ((HEQ.out _).mono fun _ _ h => ⟨h.1, h.2.symm⟩))) | quiet_step ((exact calls_lat_same ((HEQ.out _).mono fun _ _ h => ⟨h.1, h.2.symm⟩))))
      refine wpQuiet_nil ?_
      intro _ hlat
      obtain ⟨wz, rfl⟩ := hlat
      go_wp2_with fail
      have HB2 := hide (below_wide HBL.out (lat_below wl wz))
      simp only [go_sem]
      go_ret
      exact ⟨rfl, HB2.out⟩
end Go.Proofs.YtihmmmodimionaaDoor.Lx
