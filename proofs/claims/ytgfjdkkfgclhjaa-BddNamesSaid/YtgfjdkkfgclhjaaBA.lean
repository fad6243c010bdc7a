/- The arena's types: keys and elements of its maps. -/
import Derived.Test.YtgfjdkkfgclhjaaBase
import Derived.Test.YtgfjdkkfgclhjaaO
import Derived.Test.YtgfjdkkfgclhjaaMM
import Derived.Test.YtgfjdkkfgclhjaaDP
import Derived.DeepKeys4
import Derived.StillTailTactics
import Derived.Deep.RegionHeld3
namespace Go.Proofs.Ytgfjdkkfgclhjaa.Bd
open Go.RowKit Go.Proofs.Ytgfjdkkfgclhjaa Go.Proofs.Ytgfjdkkfgclhjaa.Lx Go.Maps

def encN (x : Nd) : Value := .agg #[.int .i32 x.1, .int .i32 x.2.1, .int .i32 x.2.2]
def encI (x : Int) : Value := .int .i64 x
def enc3 (x : Int) : Value := .int .i32 x
theorem encN_inj (x y : Nd) (h : encN x = encN y) : x = y := by
  obtain ⟨a, b, c⟩ := x
  obtain ⟨a', b', c'⟩ := y
  simp [encN] at h
  simp only [Prod.mk.injEq]
  omega
theorem encI_inj (x y : Int) (h : encI x = encI y) : x = y := by simpa [encI] using h
theorem enc3_inj (x y : Int) (h : enc3 x = enc3 y) : x = y := by simpa [enc3] using h
theorem laidOut : laidOutB Try.prog = true := by kernel_rfl
theorem keyedN : Keyed Try.prog 58 := Keyed.of_law (deep_law_laid (m := 9999) laidOut (by omega) (of_decide_eq_true (by kernel_rfl)) (by kernel_rfl) (by kernel_rfl))
theorem keyedT : Keyed Try.prog 93 := Keyed.of_law (deep_law_laid (m := 9999) laidOut (by omega) (of_decide_eq_true (by kernel_rfl)) (by kernel_rfl) (by kernel_rfl))
theorem keyed3 : Keyed Try.prog 21 := int_keyed (q := .i32) (by kernel_rfl)
theorem keyedI : Keyed Try.prog 3 := int_keyed (q := .i64) (by kernel_rfl)
def small (x : Nd) : Prop := x.1 < 2147483648 ∧ x.2.1 < 2147483648 ∧ x.2.2 < 2147483648
theorem sizeT : ∃ d, Try.prog.types.size + 1 = d + 3 := by
  have h : (decide (2 ≤ Try.prog.types.size)) = true := by kernel_rfl
  have := of_decide_eq_true h
  exact ⟨Try.prog.types.size - 2, by omega⟩
theorem wf3 {x : Int} (h : -2147483648 ≤ x) (h2 : x < 2147483648) : (Lit.int .i32 x).wf = true := by
  simp [Lit.wf, IntKind.min, IntKind.max, IntKind.bits, IntKind.signed]
  omega
theorem wfI {x : Int} (h : -9223372036854775808 ≤ x) (h2 : x < 9223372036854775808) : (Lit.int .i64 x).wf = true := by
  simp [Lit.wf, IntKind.min, IntKind.max, IntKind.bits, IntKind.signed]
  omega
theorem litI (d : Nat) {x : Int} (h : (Lit.int .i32 x).wf = true) : Try.prog.keyLits (d + 1) 21 [.int .i32 x] = some [.int .i32 x] := by
  unfold Program.keyLits
  rw [Try.underlying21]
  simp [h]
theorem keyN (x : Nd) (h : small x) : ∃ kl, keyOf Try.prog 58 (encN x) = some kl := by
  obtain ⟨a, b, c⟩ := x
  obtain ⟨h1, h2, h3⟩ := h
  simp only at h1 h2 h3
  obtain ⟨d, hd⟩ := sizeT
  have w1 := litI (d + 1) (wf3 (x := a) (by omega) (by omega))
  have w2 := litI (d + 1) (wf3 (x := b) (by omega) (by omega))
  have w3 := litI (d + 1) (wf3 (x := c) (by omega) (by omega))
  have hk : Try.prog.keyType 58 = true := by kernel_rfl
  have hc : Try.prog.cellsOf 58 = 3 := by kernel_rfl
  have hc1 : Try.prog.cellsOf 21 = 1 := by kernel_rfl
  have e : (encN (a, b, c)).formed Try.prog 58 = true := by
    unfold Value.formed encN
    simp only
    rw [Try.underlying58, hc]
    rfl
  have l : Try.prog.keyLits (d + 3) 58 [.int .i32 a, .int .i32 b, .int .i32 c] = some [.int .i32 a, .int .i32 b, .int .i32 c] := by
    unfold Program.keyLits
    rw [Try.underlying58, hc]
    simp [hc1, w1, w2, w3]
  unfold keyOf
  rw [Try.underlying58]
  simp only [hk, e, Bool.and_self, if_true]
  rw [hd, show (encN (a, b, c)).cells.toList = [.int .i32 a, .int .i32 b, .int .i32 c] from rfl, l]
  exact ⟨_, rfl⟩
theorem keyT (x : Nd) (h : small x) : ∃ kl, keyOf Try.prog 93 (encN x) = some kl := by
  obtain ⟨a, b, c⟩ := x
  obtain ⟨h1, h2, h3⟩ := h
  simp only at h1 h2 h3
  obtain ⟨d, hd⟩ := sizeT
  have w1 := litI (d + 1) (wf3 (x := a) (by omega) (by omega))
  have w2 := litI (d + 1) (wf3 (x := b) (by omega) (by omega))
  have w3 := litI (d + 1) (wf3 (x := c) (by omega) (by omega))
  have hk : Try.prog.keyType 93 = true := by kernel_rfl
  have hc : Try.prog.cellsOf 93 = 3 := by kernel_rfl
  have hc1 : Try.prog.cellsOf 21 = 1 := by kernel_rfl
  have e : (encN (a, b, c)).formed Try.prog 93 = true := by
    unfold Value.formed encN
    simp only
    rw [Try.underlying93, hc]
    rfl
  have l : Try.prog.keyLits (d + 3) 93 [.int .i32 a, .int .i32 b, .int .i32 c] = some [.int .i32 a, .int .i32 b, .int .i32 c] := by
    unfold Program.keyLits
    rw [Try.underlying93, hc]
    simp [hc1, w1, w2, w3, show List.range 3 = [0, 1, 2] by rfl]
  unfold keyOf
  rw [Try.underlying93]
  simp only [hk, e, Bool.and_self, if_true]
  rw [hd, show (encN (a, b, c)).cells.toList = [.int .i32 a, .int .i32 b, .int .i32 c] from rfl, l]
  exact ⟨_, rfl⟩
theorem keyI (x : Int) (h : -9223372036854775808 ≤ x) (h2 : x < 9223372036854775808) : keyOf Try.prog 3 (encI x) = some (.int .i64 x) := keyOf_int_mk (by kernel_rfl) (wfI h h2)
theorem key3 (x : Int) (h : -2147483648 ≤ x) (h2 : x < 2147483648) : keyOf Try.prog 21 (enc3 x) = some (.int .i32 x) := keyOf_int_mk (by kernel_rfl) (wf3 h h2)
theorem zero3 (w : World) : (zeroValue 21).run Try.prog w = .ok (.int .i32 0) w := by
  exact Try.zeroValue21 w
theorem zeroB (w : World) : (zeroValue 4).run Try.prog w = .ok (.bool false) w := by
  exact Try.zeroValue4 w
end Go.Proofs.Ytgfjdkkfgclhjaa.Bd
