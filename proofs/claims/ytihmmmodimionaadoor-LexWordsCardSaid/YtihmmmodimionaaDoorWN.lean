import Derived.Test.YtihmmmodimionaaDoorA
import Derived.Test.YtihmmmodimionaaDoorWP
import Derived.Test.YtihmmmodimionaaDoorShelf
import Derived.WalkSmall
import Derived.Lib.SmallJoins
import Derived.Lib.AppendIntMem
import Derived.WalkSpells
import Derived.WalkLawsBesides
import Derived.Outline
namespace Go.Proofs.YtihmmmodimionaaDoor.Lx
open Go.RowKit

/-- what the variables read as that strconv looks at -/
structure SV (w : World) : Prop where
  syn : ∃ tp p, w.var? Tryd.prog "strconv.ErrSyntax" = some #[.iface tp p]
  rng : ∃ tp p, w.var? Tryd.prog "strconv.ErrRange" = some #[.iface tp p]
  tab : Lib.TabIs Tryd.prog w "internal/strconv.uint64pow10" .u64 Lib.pow10Tab

def NumOut (r : Int × Bool) (w : World) (e : Ending) (w' : World) : Prop := e = .returned (.tuple #[.int .i64 r.1, .bool r.2]) ∧ Below w.heap.size w w'

set_option maxRecDepth 100000 in
set_option maxHeartbeats 1000000 in
theorem number_any (s : ByteArray) (most : Int) (w : World) (hlim : s.size ≤ 140737488351232) (hsv : SV w) :
    Calls Tryd.prog 18 #[.string s, .int .i64 most] w (NumOut (numRes (T s) most) w) := by
  rw [← numAt_eq]
  have hmx : s.size ≤ 9223372036854775806 := by omega
  cases hA : Lib.atoiAll (T s)
  case ok v =>
    have hvb := Lib.atoiAll_bounds hA
    have hN : numAt (T s) most = if 0 ≤ v ∧ v ≤ most ∧ Lib.itoa v = T s then (v, true) else (0, false) := by unfold numAt; rw [hA]
    have HN := hide hN
    have HC : Hid (Calls Tryd.prog 30 #[.string s] w fun e w' => e = .returned (.tuple #[.int .i64 v, .nilIface]) ∧ Below w.heap.size w w') := (Tryd.strconv_Atoi_ok s hmx v hA w).mono fun e w' ⟨he, hw⟩ => ⟨he, by
      rcases hw with rfl | ⟨t, rfl⟩
      · exact Below.refl _ _
      · exact Joins.below_bytesWorld _ _ _ _ (Nat.le_refl _)⟩
    clear hA hN
    by_cases h0 : v < 0
    · have h0' : decide (v < 0) = true := by simpa using h0
      go_enter Tryd.func18, Tryd.ntmps18
      go_wp2_with fail
      refine HC.out.mono ?_; rintro e w1 ⟨rfl, hb⟩
      have HB := hide hb
      clear hb
      go_wp2_with fail
      go_ret2
      exact ⟨by rw [HN.out, if_neg (by omega)]; rfl, HB.out⟩
    have h0' : decide (v < 0) = false := by simpa using h0
    by_cases h1 : most < v
    · have h1' : decide (most < v) = true := by simpa using h1
      go_enter Tryd.func18, Tryd.ntmps18
      go_wp2_with fail
      refine HC.out.mono ?_; rintro e w1 ⟨rfl, hb⟩
      have HB := hide hb
      clear hb
      go_wp2_with fail
      go_ret2
      exact ⟨by rw [HN.out, if_neg (by omega)]; rfl, HB.out⟩
    have h1' : decide (most < v) = false := by simpa using h1
    have HIT := hide (fun W => Tryd.strconv_Itoa v hvb.1 hvb.2 W)
    obtain ⟨i, hi⟩ : ∃ i : ByteArray, i = ⟨(Lib.itoa v).toArray⟩ := ⟨_, rfl⟩
    have hTi : T i = Lib.itoa v := by rw [hi]; rfl
    rw [← hi] at HIT
    have HTI := hide hTi
    have HTB := hide hsv.tab
    clear hi hTi
    have hgl : Tryd.prog.globalNamed "internal/strconv.uint64pow10" = some 5 := by kernel_rfl
    have HGL := hide hgl
    clear hgl
    by_cases h2 : Lib.itoa v = T s
    · have he : (i.toList == s.toList) = true := by
        rw [ByteArray.toList_eq, ByteArray.toList_eq, show i.data.toList = T i from rfl, show s.data.toList = T s from rfl, HTI.out, h2]; simp
      have H2 := hide h2
      clear h2
      go_enter Tryd.func18, Tryd.ntmps18
      go_wp2_with fail
      refine HC.out.mono ?_; rintro e w1 ⟨rfl, hb⟩
      have HB := hide hb
      have HTB1 := hide (Joins.tab_stays HGL.out HTB.out hb (Nat.le_refl _))
      clear hb
      go_wp2_with fail
      refine (HIT.out _ HTB1.out).mono ?_; rintro e w2 ⟨rfl, k, os, rfl⟩
      have HB2 := hide (below_wide HB.out (Lib.below_grow _ w1 (Nat.le_refl _) k os))
      go_wp2_with fail
      go_ret2
      exact ⟨by rw [HN.out, if_pos ⟨by omega, by omega, H2.out⟩]; rfl, HB2.out⟩
    · have he : (i.toList == s.toList) = false := by
        rw [ByteArray.toList_eq, ByteArray.toList_eq, show i.data.toList = T i from rfl, show s.data.toList = T s from rfl, HTI.out]; simpa using h2
      have H2 := hide h2
      clear h2
      go_enter Tryd.func18, Tryd.ntmps18
      go_wp2_with fail
      refine HC.out.mono ?_; rintro e w1 ⟨rfl, hb⟩
      have HB := hide hb
      have HTB1 := hide (Joins.tab_stays HGL.out HTB.out hb (Nat.le_refl _))
      clear hb
      go_wp2_with fail
      refine (HIT.out _ HTB1.out).mono ?_; rintro e w2 ⟨rfl, k, os, rfl⟩
      have HB2 := hide (below_wide HB.out (Lib.below_grow _ w1 (Nat.le_refl _) k os))
      go_wp2_with fail
      go_ret2
      exact ⟨by rw [HN.out, if_neg (fun h => H2.out h.2.2)]; rfl, HB2.out⟩
  case range =>
    have HN : Hid (numAt (T s) most = (0, false)) := by show _ = _; unfold numAt; rw [hA]
    obtain ⟨tp, p, hv⟩ := hsv.rng
    have HC := hide (Tryd.strconv_Atoi_range_var s (by omega) hA tp p w hv)
    clear hA hv
    go_enter Tryd.func18, Tryd.ntmps18
    go_wp2_with fail
    refine HC.out.mono ?_; rintro e w1 ⟨N, rfl, _, _, hb⟩
    have HB := hide hb
    clear hb
    go_wp2_with fail
    go_ret2
    exact ⟨by rw [HN.out]; rfl, HB.out⟩
  have HN : Hid (numAt (T s) most = (0, false)) := by show _ = _; unfold numAt; rw [hA]
  obtain ⟨tp, p, hv⟩ := hsv.syn
  have HC := hide (Tryd.strconv_Atoi_syntax_var s (by omega) (fun v h => by cases hA.symm.trans h) (fun h => by cases hA.symm.trans h) tp p w hv)
  clear hA hv
  go_enter Tryd.func18, Tryd.ntmps18
  go_wp2_with fail
  refine HC.out.mono ?_; rintro e w1 ⟨N, rfl, _, _, hb⟩
  have HB := hide hb
  clear hb
  go_wp2_with fail
  go_ret2
  exact ⟨by rw [HN.out]; rfl, HB.out⟩
end Go.Proofs.YtihmmmodimionaaDoor.Lx
