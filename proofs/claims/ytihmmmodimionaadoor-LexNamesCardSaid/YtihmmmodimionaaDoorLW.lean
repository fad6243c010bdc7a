import Derived.Test.YtihmmmodimionaaDoorL
import Derived.Test.YtihmmmodimionaaDoorLN
import Derived.Test.YtihmmmodimionaaDoorA
import Derived.Deep.LoopGhost
import Derived.OneCell
namespace Go.Proofs.YtihmmmodimionaaDoor.Lx
open Go.RowKit

theorem infoLine : (Tryd.prog.info? 35).map (fun i => (i.zero, i.size, i.bytes)) = some (some (.agg #[.int .i64 0, .slice none 0 0]), 2, 32) := by kernel_rfl
theorem infoWord : (Tryd.prog.info? 37).map (fun i => (i.zero, i.size, i.bytes)) = some (some (.agg #[.string { data := #[] }, .int .i64 0, .int .i64 0]), 3, 32) := by kernel_rfl

structure BWd where
  b : ByteArray
  c : Int
structure BLn where
  ind : Int
  l : Int
  v : Value
  ws : List BWd
def BWd.wd (x : BWd) : Wd := ⟨T x.b, x.c⟩
def BWd.cells (l : Int) (x : BWd) : List Value := [.string x.b, .int .i64 l, .int .i64 x.c]
def BLn.ln (x : BLn) : Ln := ⟨x.ind, x.l, x.ws.map BWd.wd⟩
def BLn.cells (x : BLn) : List Value := [.int .i64 x.ind, x.v]
/-- a line's words lie in a row of its own -/
def WRow (w : World) (base : Nat) (t : TypeId) (x : BLn) : Prop := w.ownsRow base t 3 x.v x.ws.length (x.ws.flatMap (BWd.cells x.l))

theorem T_mk (l : List UInt8) : T ⟨l.toArray⟩ = l := rfl
theorem T_nl : T (⟨#[10]⟩ : ByteArray) = [10] := rfl
theorem split_rows : ∀ (n : Nat) (s : ByteArray), s.size ≤ n → (Lib.splitB ⟨#[10]⟩ 0 (Lib.countB s ⟨#[10]⟩) s).map T = rowsOf (T s) [] ∧ ∀ r ∈ Lib.splitB ⟨#[10]⟩ 0 (Lib.countB s ⟨#[10]⟩) s, r.size ≤ s.size := by
  intro n
  induction n with
  | zero =>
    intro s hs
    have h0 : T s = [] := List.eq_nil_of_length_eq_zero (by rw [T_len]; omega)
    have hi : Lib.indexB s ⟨#[10]⟩ = -1 := by
      show Lib.index (T s) [10] = -1
      rw [h0]; rfl
    rw [Lib.splitB_miss _ _ _ _ hi, h0]
    refine ⟨by simp [h0, rowsOf], fun r hr => ?_⟩
    have : r = s := by simpa using hr
    rw [this]; exact Nat.le_refl _
  | succ n ih =>
    intro s hs
    by_cases h : Lib.indexB s ⟨#[10]⟩ = -1
    · rw [Lib.splitB_miss _ _ _ _ h]
      refine ⟨?_, fun r hr => ?_⟩
      · rw [rowsOf_none (show Lib.index (T s) [10] < 0 by have h' : Lib.index (T s) [10] = -1 := h; omega)]; rfl
      · have : r = s := by simpa using hr
        rw [this]; exact Nat.le_refl _
    · have hge : -1 ≤ Lib.index (T s) [10] := Lib.index_ge _ _
      have hi : 0 ≤ Lib.index (T s) [10] := by
        have h' : ¬ Lib.index (T s) [10] = -1 := h
        omega
      obtain ⟨i, hi2⟩ : ∃ i : Nat, Lib.index (T s) [10] = i := ⟨(Lib.index (T s) [10]).toNat, by omega⟩
      have hib : Lib.indexB s ⟨#[10]⟩ = i := hi2
      have hat := index_one_at hi
      rw [hi2] at hat
      simp only [Int.toNat_natCast] at hat
      have hlt : i < s.size := by
        rcases Nat.lt_or_ge i s.size with h3 | h3
        · exact h3
        · rw [List.drop_eq_nil_of_le (by rw [T_len]; omega)] at hat; cases hat.2
      have hsz : (s.extract (i + (⟨#[10]⟩ : ByteArray).size) s.size).size ≤ n := by
        rw [ByteArray.size_extract]; show min s.size s.size - (i + 1) ≤ n; omega
      rw [Lib.countB_hit s ⟨#[10]⟩ i (by decide) hib, Nat.add_comm, Lib.splitB_hit _ _ _ _ i hib]
      obtain ⟨h1, h2⟩ := ih _ hsz
      refine ⟨?_, fun r hr => ?_⟩
      · rw [List.map_cons, h1, rowsOf_hit hi, hi2]
        simp only [Int.toNat_natCast]
        congr 1
        · rw [T_extract]; simp
        · rw [show i + (⟨#[10]⟩ : ByteArray).size = i + 1 from rfl, T_extract, List.take_of_length_le (by rw [T_len]; exact Nat.le_refl _)]
      · rcases List.mem_cons.1 hr with rfl | hr
        · rw [ByteArray.size_extract]; omega
        · have := h2 r hr
          rw [ByteArray.size_extract] at this
          omega
/-- what a cutter of lines hands back -/
def LinOut (tl tw : TypeId) (ls : List Ln) (p : Int × Int × Int) (w : World) (e : Ending) (w' : World) : Prop :=
  ∃ (v : Value) (bs : List BLn), bs.map BLn.ln = ls ∧ e = .returned (.tuple #[v, .agg #[.int .i64 p.1, .int .i64 p.2.1], .int .i64 p.2.2]) ∧ w'.ownsRow w.heap.size tl 2 v bs.length (bs.flatMap BLn.cells) ∧ (∀ x ∈ bs, WRow w' w.heap.size tw x) ∧ Below w.heap.size w w' ∧ bs.length ≤ 65537 ∧ (∀ x ∈ bs, x.ws.length ≤ 65536)
def VRow (w : World) (v : Value) (n size : Nat) (xs : List Value) : Prop :=
  ∃ A cap, v = .slice A n cap ∧ (0 < n → ∃ g, A = some ⟨g, 0, none⟩ ∧ ∀ j, j < n * size → w.cell? ⟨g, j, none⟩ = xs[j]?)
theorem vrow_own {w : World} {base size n : Nat} {t : TypeId} {v : Value} {xs : List Value} (h : w.ownsRow base t size v n xs) : VRow w v n size xs := by
  rcases h.2 with ⟨rfl, h0⟩ | ⟨g, cap, cur, rfl, h1, h2, h3, h4, h5, h6⟩
  · exact ⟨none, 0, by rw [h0], fun h => by omega⟩
  · exact ⟨_, cap, rfl, fun _ => ⟨g, rfl, fun j hj => h.cellAt j hj⟩⟩
def LinesAt (w : World) (v : Value) (bs : List BLn) : Prop :=
  VRow w v bs.length 2 (bs.flatMap BLn.cells) ∧ ∀ x ∈ bs, VRow w x.v x.ws.length 3 (x.ws.flatMap (BWd.cells x.l))
theorem flatL_at (bs : List BLn) (i : Nat) (h : i < bs.length) : (bs.flatMap BLn.cells)[i * 2]? = some (.int .i64 bs[i].ind) ∧ (bs.flatMap BLn.cells)[i * 2 + 1]? = some bs[i].v := by
  induction bs generalizing i with
  | nil => simp at h
  | cons x xs ih =>
    cases i with
    | zero => exact ⟨rfl, rfl⟩
    | succ i =>
      have := ih i (by simpa using h)
      have e : (i + 1) * 2 = i * 2 + 2 := by omega
      have e1 : (i + 1) * 2 + 1 = (i * 2 + 1) + 2 := by omega
      rw [e1, e]
      simp only [List.flatMap_cons, BLn.cells, List.cons_append, List.nil_append, List.getElem?_cons_succ, List.getElem_cons_succ]
      exact this
theorem flatW_at (l : Int) (bs : List BWd) (i : Nat) (h : i < bs.length) : (bs.flatMap (BWd.cells l))[i * 3]? = some (.string bs[i].b) ∧ (bs.flatMap (BWd.cells l))[i * 3 + 1]? = some (.int .i64 l) ∧ (bs.flatMap (BWd.cells l))[i * 3 + 2]? = some (.int .i64 bs[i].c) := by
  induction bs generalizing i with
  | nil => simp at h
  | cons x xs ih =>
    cases i with
    | zero => exact ⟨rfl, rfl, rfl⟩
    | succ i =>
      have := ih i (by simpa using h)
      have e : (i + 1) * 3 = i * 3 + 3 := by omega
      have e1 : (i + 1) * 3 + 1 = (i * 3 + 1) + 3 := by omega
      have e2 : (i + 1) * 3 + 2 = (i * 3 + 2) + 3 := by omega
      rw [e1, e2, e]
      simp only [List.flatMap_cons, BWd.cells, List.cons_append, List.nil_append, List.getElem?_cons_succ, List.getElem_cons_succ]
      exact this
end Go.Proofs.YtihmmmodimionaaDoor.Lx
