import Derived.Test.YtopckpjhdbjmbaaDoorZH
import Derived.Test.YtopckpjhdbjmbaaDoorDG
import Derived.Test.YtopckpjhdbjmbaaDoorShelf
import Derived.WalkSmall
import Derived.Lib.SmallJoins
import Derived.Lib.AppendIntMem
import Derived.WalkSpells
import Derived.WalkLawsBesides
import Derived.Outline
namespace Go.Proofs.YtopckpjhdbjmbaaDoor.Ld
open Go.RowKit Go.Proofs.YtopckpjhdbjmbaaDoor.Lx

/-- what the variables read as that the library looks at -/
structure SV (w : World) : Prop where
  syn : ∃ tp p, w.var? Tryd.prog "strconv.ErrSyntax" = some #[.iface tp p]
  rng : ∃ tp p, w.var? Tryd.prog "strconv.ErrRange" = some #[.iface tp p]
  tab : Lib.TabIs Tryd.prog w "internal/strconv.uint64pow10" .u64 Lib.pow10Tab
  mx : ∃ m, w.cell? ⟨0, 0, none⟩ = some (.int .i64 m)
theorem gSyn : Tryd.prog.globalNamed "strconv.ErrSyntax" = some 1 := by kernel_rfl
theorem gRng : Tryd.prog.globalNamed "strconv.ErrRange" = some 2 := by kernel_rfl
theorem gTab : Tryd.prog.globalNamed "internal/strconv.uint64pow10" = some 3 := by kernel_rfl
theorem var_lt {w : World} {n : String} {g : Nat} {cs : Array Value} (hg : Tryd.prog.globalNamed n = some g) (h : w.var? Tryd.prog n = some cs) : g < w.heap.size := by
  unfold World.var? at h
  rw [hg] at h
  simp only [Option.bind_some] at h
  rcases Nat.lt_or_ge g w.heap.size with h' | h'
  · exact h'
  · simp [Array.getElem?_eq_none h'] at h
theorem SV.below {w w' : World} (h : SV w) (hb : Below w.heap.size w w') : SV w' := by
  obtain ⟨⟨tp, p, h1⟩, ⟨tq, q, h2⟩, h3, ⟨m, h4⟩⟩ := h
  exact ⟨⟨tp, p, var?_below hb gSyn (var_lt gSyn h1) h1⟩, ⟨tq, q, var?_below hb gRng (var_lt gRng h2) h2⟩, Joins.tab_stays gTab h3 hb (Nat.le_refl _), ⟨m, by rw [hb.cell (p := ⟨0, 0, none⟩) (lt_of_cell h4)]; exact h4⟩⟩

def textL (c : Nat) : List UInt8 := Lib.decDigits (c / 65536) ++ [58] ++ Lib.decDigits (c % 65536)
def TxtOut (c : Nat) (w : World) (e : Ending) (w' : World) : Prop := ∃ r : ByteArray, e = .returned (.string r) ∧ T r = textL c ∧ r.size ≤ 100 ∧ Below w.heap.size w w'
theorem itoa_any (n : Nat) (w : World) (hn : n ≤ 65535) (h : SV w) :
    Calls Tryd.prog 29 #[.int .i64 n] w fun e w' => ∃ r : ByteArray, e = .returned (.string r) ∧ T r = Lib.decDigits n ∧ r.size ≤ 5 ∧ Below w.heap.size w w' := by
  refine (Tryd.strconv_Itoa n (by omega) (by omega) w h.tab).mono ?_
  rintro e w1 ⟨rfl, k, os, rfl⟩
  refine ⟨_, rfl, ?_, ?_, Lib.below_grow _ w (Nat.le_refl _) k os⟩
  · show Lib.itoa n = _
    exact Lib.itoa_nonneg n
  · rw [size_T]
    show (Lib.itoa n).length ≤ 5
    rw [Lib.itoa_nonneg]
    exact dec_len 5 n (by omega) (by omega)

set_option maxHeartbeats 1000000 in
theorem text_any (c : Nat) (w : World) (hc : c < 4294967296) (h : SV w) :
    Calls Tryd.prog 13 #[.int .u32 c] w (TxtOut c w) := by
  have HI := hide (fun W hW => itoa_any (c / 65536) W (by omega) hW)
  have HJ := hide (fun W hW => itoa_any (c % 65536) W (by omega) hW)
  have H := hide h
  rw [show ((c / 65536 : Nat) : Int) = (c : Int) / 65536 by omega] at HI
  rw [show ((c % 65536 : Nat) : Int) = (c : Int) % 65536 by omega] at HJ
  have hand : bits .and .u32 (c : Int) 65535 = (c : Int) % 65536 := by
    have := and_mask c 16 (by omega) (by omega) (by omega)
    rwa [show pw 16 = 65536 by decide] at this
  clear h
  go_enter Tryd.func13, Tryd.ntmps13
  go_wp2_with fail
  refine (HI.out _ H.out).mono ?_; rintro e w1 ⟨r, rfl, hr, hrs, hb1⟩
  have HB1 := hide hb1
  have H1 := hide (H.out.below hb1)
  have HR := hide hr
  clear hb1 hr
  go_wp2_with fail
  refine (HJ.out _ H1.out).mono ?_; rintro e w2 ⟨r2, rfl, hr2, hrs2, hb2⟩
  have HB2 := hide (below_wide HB1.out hb2)
  have HR2 := hide hr2
  clear hb2 hr2 hand
  go_wp2_with fail
  go_ret
  refine ⟨_, rfl, ?_, ?_, HB2.out⟩
  · rw [T_app2, T_app2, HR.out, HR2.out]; rfl
  · rw [ByteArray.size_append, ByteArray.size_append]
    show r.size + 1 + r2.size ≤ 100
    omega

/-- what lists.Parse answers -/
def parseA (l : List UInt8) : Option Nat :=
  match Lib.parseUintB 16 (Lib.cut l [58]).1, Lib.parseUintB 16 (Lib.cut l [58]).2.1 with
  | .ok m, .ok n => if textL (m * 65536 + n) = l then some (m * 65536 + n) else none
  | _, _ => none
def ParOut (r : Option Nat) (w : World) (e : Ending) (w' : World) : Prop :=
  e = .returned (match r with | some c => .tuple #[.int .u32 c, .int .i64 0] | none => .tuple #[.int .u32 0, .int .i64 4]) ∧ Below w.heap.size w w'
end Go.Proofs.YtopckpjhdbjmbaaDoor.Ld
