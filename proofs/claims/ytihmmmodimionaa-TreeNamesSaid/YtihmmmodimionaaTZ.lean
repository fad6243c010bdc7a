/- Print; Find and Merge on nothing. -/
import Derived.Test.YtihmmmodimionaaTY
namespace Go.Proofs.Ytihmmmodimionaa.Tr
open Go.RowKit Go.Proofs.Ytihmmmodimionaa Go.Proofs.Ytihmmmodimionaa.Lx

def printV (r : Option (List UInt8)) : Value := match r with
  | some o => .tuple #[.string ⟨o.toArray⟩, .int .i64 0]
  | none => .tuple #[.string ⟨#[]⟩, .int .i64 1]
set_option maxRecDepth 100000 in
theorem print_any (F : Fo) (A : Option Addr) (c : Nat) (xs : List Value) (D : Nat → Prop) (w : World) (hs : Src w A F.len c 4 xs) (hf : FoV w D F xs) (hD : ∀ q, D q → q < w.heap.size) (hA : ∀ a, A = some a → a.block < w.heap.size) (hwt : wtF F ≤ 4398046511104) (hwb : WB F) (m : Int) (hm : w.cell? ⟨0, 0, none⟩ = some (.int .i64 m)) :
    Calls Try.prog 13 #[.slice A F.len c] w fun e w' => e = .returned (printV (writeF 0 F)) ∧ Below w.heap.size w w' := by
  have h0 : 0 < w.heap.size := by
    rcases Nat.eq_zero_or_pos w.heap.size with h | h
    · unfold World.cell? at hm
      rw [Array.getElem?_eq_none (by omega)] at hm
      cases hm
    · exact h
  have hb1 := bel_one w (.cells #[.pointer none, .slice none 0 0] 84)
  have hB : Bld w.heap.size w.heap.size [] (w.alloc (.cells #[.pointer none, .slice none 0 0] 84)) := .inl ⟨Nat.le_refl _, .slice none 0 0, heap_new w _, ⟨rfl, .inl ⟨rfl, rfl⟩⟩, by simp [Value.ownBlock]⟩
  have HW := hide (write_any w.heap.size w.heap.size m F.nodes F rfl 0 A c xs [] D (w.alloc (.cells #[.pointer none, .slice none 0 0] 84)) (src_keep hs (fun a ha => hb1.block _ (hA a ha))) (hf.keep (fun q hq => hb1.block q (hD q hq))) hD hA hB (by simp) (by omega) (by simpa using hwt) hwb h0 (cellB hb1 hm))
  have HB1 := hide hb1
  clear hs hf hD hA hwt hwb hm hB hb1
  go_enter Try.func13, Try.ntmps13
  go_wp2_with fail
  refine HW.out.mono ?_
  rintro e w2 ⟨hb2, hh⟩
  have HB2 := hide (below_two HB1.out hb2)
  cases hr : writeF 0 F with
  | none =>
    rw [hr] at hh
    have HR := hide hr
    obtain ⟨rfl, _⟩ := hh
    clear hb2 hr
    go_wp2_with fail
    go_returns
    exact ⟨by rw [HR.out]; rfl, HB2.out⟩
  | some o =>
    rw [hr] at hh
    have HR := hide hr
    obtain ⟨rfl, hd⟩ := hh
    have HS := hide ((Any.Builder_String_any_f Try.lays169 Try.Builder_Extra_169 w.heap.size w.heap.size ([] ++ o) w2 hd HB2.out.size))
    clear hb2 hr hd
    go_wp2_with fail
    refine HS.out.mono ?_
    rintro e w3 ⟨rfl, _, hb3⟩
    have HB3 := hide (below_two HB2.out hb3)
    clear hb3
    go_wp2_with fail
    go_returns
    exact ⟨by rw [HR.out]; rfl, HB3.out⟩
set_option maxRecDepth 100000 in
theorem find_nil (w : World) : Calls Try.prog 14 #[.slice none 0 0, .slice none 0 0] w fun e w' => e = .returned (.tuple #[.slice none 0 0, .bool false]) ∧ w = w' := by
  go_enter Try.func14, Try.ntmps14
  go_wp2_with fail
  go_loopw [10] (fun j wr => j = .int .i64 0 ∧ wr = w) (fun j _ => 0)
  case atStart => exact ⟨rfl, rfl⟩
  case round =>
    obtain ⟨rfl, rfl⟩ := hrel
    go_wp2_with fail
    go_returns
    exact ⟨rfl, rfl⟩
set_option maxRecDepth 100000 in
theorem merge_nil (w : World) : Calls Try.prog 15 #[.slice none 0 0] w fun e w' => e = .returned (.slice none 0 0) ∧ w = w' := by
  go_enter Try.func15, Try.ntmps15
  go_wp2_with fail
  go_loopw [3, 10] (fun v j wr => v = .slice none 0 0 ∧ j = .int .i64 0 ∧ wr = w) (fun _ j _ => 0)
  case atStart => exact ⟨rfl, rfl, rfl⟩
  case round =>
    obtain ⟨rfl, rfl, rfl⟩ := hrel
    go_wp2_with fail
    go_loopw [44] (fun j wx => j = .int .i64 0 ∧ wx = wr) (fun j _ => 0)
    case atStart => exact ⟨rfl, rfl⟩
    case round =>
      obtain ⟨rfl, hw⟩ := hrel
      subst hw
      go_wp2_with fail
      go_ret
      exact ⟨rfl, rfl⟩
end Go.Proofs.Ytihmmmodimionaa.Tr
