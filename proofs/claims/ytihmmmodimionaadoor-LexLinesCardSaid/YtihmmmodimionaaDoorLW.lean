import Derived.Test.YtihmmmodimionaaDoorL
import Derived.Test.YtihmmmodimionaaDoorLN
import Derived.Test.YtihmmmodimionaaDoorB
import Derived.Deep.LoopGhost
import Derived.OneCell
namespace Go.Proofs.YtihmmmodimionaaDoor.Lx
open Go.RowKit

theorem infoLine : (Tryd.prog.info? 35).map (fun i => (i.zero, i.size, i.bytes)) = some (some (.agg #[.int .i64 0, .slice none 0 0]), 2, 32) := by kernel_rfl
theorem infoWord : (Tryd.prog.info? 37).map (fun i => (i.zero, i.size, i.bytes)) = some (some (.agg #[.string { data := #[] }, .int .i64 0, .int .i64 0]), 3, 32) := by kernel_rfl

structure BWd where
  b : ByteArray
  c : Int
structure BLn where
  ind : Int
  l : Int
  v : Value
  ws : List BWd
def BWd.wd (x : BWd) : Wd := ⟨T x.b, x.c⟩
def BWd.cells (l : Int) (x : BWd) : List Value := [.string x.b, .int .i64 l, .int .i64 x.c]
def BLn.ln (x : BLn) : Ln := ⟨x.ind, x.l, x.ws.map BWd.wd⟩
def BLn.cells (x : BLn) : List Value := [.int .i64 x.ind, x.v]
/-- a line's words lie in a row of its own -/
def WRow (w : World) (base : Nat) (t : TypeId) (x : BLn) : Prop := w.ownsRow base t 3 x.v x.ws.length (x.ws.flatMap (BWd.cells x.l))

theorem T_mk (l : List UInt8) : T ⟨l.toArray⟩ = l := rfl
theorem T_nl : T (⟨#[10]⟩ : ByteArray) = [10] := rfl
theorem split_rows : ∀ (n : Nat) (s : ByteArray), s.size ≤ n → (Lib.splitB ⟨#[10]⟩ 0 (Lib.countB s ⟨#[10]⟩) s).map T = rowsOf (T s) [] ∧ ∀ r ∈ Lib.splitB ⟨#[10]⟩ 0 (Lib.countB s ⟨#[10]⟩) s, r.size ≤ s.size := by
  intro n
  induction n with
  | zero =>
    intro s hs
    have h0 : T s = [] := List.eq_nil_of_length_eq_zero (by rw [T_len]; omega)
    have hi : Lib.indexB s ⟨#[10]⟩ = -1 := by
      show Lib.index (T s) [10] = -1
      rw [h0]; rfl
    rw [Lib.splitB_miss _ _ _ _ hi, h0]
    refine ⟨by simp [h0, rowsOf], fun r hr => ?_⟩
    have : r = s := by simpa using hr
    rw [this]; exact Nat.le_refl _
  | succ n ih =>
    intro s hs
    by_cases h : Lib.indexB s ⟨#[10]⟩ = -1
    · rw [Lib.splitB_miss _ _ _ _ h]
      refine ⟨?_, fun r hr => ?_⟩
      · rw [rowsOf_none (show Lib.index (T s) [10] < 0 by have h' : Lib.index (T s) [10] = -1 := h; omega)]; rfl
      · have : r = s := by simpa using hr
        rw [this]; exact Nat.le_refl _
    · have hge : -1 ≤ Lib.index (T s) [10] := Lib.index_ge _ _
      have hi : 0 ≤ Lib.index (T s) [10] := by
        have h' : ¬ Lib.index (T s) [10] = -1 := h
        omega
      obtain ⟨i, hi2⟩ : ∃ i : Nat, Lib.index (T s) [10] = i := ⟨(Lib.index (T s) [10]).toNat, by omega⟩
      have hib : Lib.indexB s ⟨#[10]⟩ = i := hi2
      have hat := index_one_at hi
      rw [hi2] at hat
      simp only [Int.toNat_natCast] at hat
      have hlt : i < s.size := by
        rcases Nat.lt_or_ge i s.size with h3 | h3
        · exact h3
        · rw [List.drop_eq_nil_of_le (by rw [T_len]; omega)] at hat; cases hat.2
      have hsz : (s.extract (i + (⟨#[10]⟩ : ByteArray).size) s.size).size ≤ n := by
        rw [ByteArray.size_extract]; show min s.size s.size - (i + 1) ≤ n; omega
      rw [Lib.countB_hit s ⟨#[10]⟩ i (by decide) hib, Nat.add_comm, Lib.splitB_hit _ _ _ _ i hib]
      obtain ⟨h1, h2⟩ := ih _ hsz
      refine ⟨?_, fun r hr => ?_⟩
      · rw [List.map_cons, h1, rowsOf_hit hi, hi2]
        simp only [Int.toNat_natCast]
        congr 1
        · rw [T_extract]; simp
        · rw [show i + (⟨#[10]⟩ : ByteArray).size = i + 1 from rfl, T_extract, List.take_of_length_le (by rw [T_len]; exact Nat.le_refl _)]
      · rcases List.mem_cons.1 hr with rfl | hr
        · rw [ByteArray.size_extract]; omega
        · have := h2 r hr
          rw [ByteArray.size_extract] at this
          omega
end Go.Proofs.YtihmmmodimionaaDoor.Lx
