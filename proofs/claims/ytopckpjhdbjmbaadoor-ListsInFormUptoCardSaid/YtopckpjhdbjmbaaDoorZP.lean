import Derived.Test.YtopckpjhdbjmbaaDoorZT
import Derived.Laws.Bits64
import Derived.Laws.Bits64b
import Derived.Laws.BitsAllLaws
namespace Go.Proofs.YtopckpjhdbjmbaaDoor.Ld
open Go.RowKit Go.Proofs.YtopckpjhdbjmbaaDoor.Lx

def puN (l : List UInt8) : Nat := match Lib.parseUintB 16 l with | .ok u => u | .range => 65535 | _ => 0
def puB (l : List UInt8) : Bool := match Lib.parseUintB 16 l with | .ok _ => true | _ => false
theorem puN_le (l : List UInt8) : puN l ≤ 65535 := by
  unfold puN
  split
  · rename_i u h
    have := Lib.parseUintB_le h
    omega
  · omega
  · omega
/-- what an error value is: none, or a pointer -/
def ErrIs (ok : Bool) (ev : Value) : Prop := (ok = true ∧ ev = .nilIface) ∨ (ok = false ∧ ∃ N, ev = .iface 99 (.pointer (some ⟨N, 0, none⟩)))
theorem pu_any (s : ByteArray) (w : World) (hs : s.size ≤ 281474976710656) (h : SV w) :
    Calls Tryd.prog 26 #[.string s, .int .i64 10, .int .i64 16] w fun e w' => ∃ ev, e = .returned (.tuple #[.int .u64 (puN (T s)), ev]) ∧ ErrIs (puB (T s)) ev ∧ Below w.heap.size w w' := by
  cases hp : Lib.parseUintB 16 (T s)
  case ok u =>
    refine (Tryd.strconv_ParseUint_10_at16_ok s (by omega) u hp w).mono ?_
    rintro e w1 ⟨rfl, hw⟩
    refine ⟨_, by unfold puN; rw [hp], .inl ⟨by unfold puB; rw [hp], rfl⟩, ?_⟩
    rcases hw with rfl | rfl
    · exact Below.refl _ _
    · exact Joins.below_bytesWorld _ _ _ _ (Nat.le_refl _)
  case range =>
    obtain ⟨tp, p, hv⟩ := h.rng
    refine (Tryd.strconv_ParseUint_10_at16_range_var s hs hp tp p w hv).mono ?_
    rintro e w1 ⟨N, rfl, _, _, hb⟩
    exact ⟨_, by unfold puN; rw [hp]; rfl, .inr ⟨by unfold puB; rw [hp], N, rfl⟩, hb⟩
  obtain ⟨tp, p, hv⟩ := h.syn
  refine (Tryd.strconv_ParseUint_10_at16_syntax_var s hs (fun v h => by cases hp.symm.trans h) (fun h => by cases hp.symm.trans h) tp p w hv).mono ?_
  rintro e w1 ⟨N, rfl, _, _, hb⟩
  exact ⟨_, by unfold puN; rw [hp]; rfl, .inr ⟨by unfold puB; rw [hp], N, rfl⟩, hb⟩
theorem parseA_no1 {l : List UInt8} (h : puB (Lib.cut l [58]).1 = false) : parseA l = none := by
  unfold puB at h
  unfold parseA
  split at h
  · cases h
  · rename_i hn
    cases hp : Lib.parseUintB 16 (Lib.cut l [58]).1 with
    | ok u => exact absurd hp (hn u)
    | _ => rfl
theorem parseA_no2 {l : List UInt8} (h : puB (Lib.cut l [58]).2.1 = false) : parseA l = none := by
  unfold puB at h
  unfold parseA
  split at h
  · cases h
  · rename_i hn
    cases hp : Lib.parseUintB 16 (Lib.cut l [58]).1 <;> cases hq : Lib.parseUintB 16 (Lib.cut l [58]).2.1 <;> first | rfl | exact absurd hq (hn _)
theorem parseA_yes {l : List UInt8} (h1 : puB (Lib.cut l [58]).1 = true) (h2 : puB (Lib.cut l [58]).2.1 = true) : parseA l = if textL (puN (Lib.cut l [58]).1 * 65536 + puN (Lib.cut l [58]).2.1) = l then some (puN (Lib.cut l [58]).1 * 65536 + puN (Lib.cut l [58]).2.1) else none := by
  unfold puB at h1 h2
  unfold parseA puN
  cases hp : Lib.parseUintB 16 (Lib.cut l [58]).1 <;> rw [hp] at h1 <;> first | cases h1; done | skip
  cases hq : Lib.parseUintB 16 (Lib.cut l [58]).2.1 <;> rw [hq] at h2 <;> first | cases h2; done | skip
theorem or_join (m n : Nat) (hm : m ≤ 65535) (hn : n ≤ 65535) : bits .or .u32 ((m : Int) * 65536) (n : Int) = ((m * 65536 + n : Nat) : Int) := by
  rw [u32_or _ _ (by omega) (by omega) (by omega) (by omega)]
  rw [show ((m : Int) * 65536).toNat = m <<< 16 by rw [Nat.shiftLeft_eq]; try omega, Int.toNat_natCast, ← Nat.shiftLeft_add_eq_or_of_lt (by omega), Nat.shiftLeft_eq]

/-- strings.Cut at one colon: of whatever length -/
def CutOut (s : ByteArray) (w : World) (e : Ending) (w' : World) : Prop := e = .returned (.tuple #[.string ⟨(Lib.cut s.data.toList [58]).1.toArray⟩, .string ⟨(Lib.cut s.data.toList [58]).2.1.toArray⟩, .bool (Lib.cut s.data.toList [58]).2.2]) ∧ ∃ n, w' = w.drewN n
set_option maxHeartbeats 1000000 in
set_option maxRecDepth 100000 in
theorem lite_cut (s : ByteArray) (w : World) (hs : s.size ≤ 140737488355328) :
    Calls Tryd.prog 42 #[.string s, .string ⟨#[58]⟩] w (CutOut s w) := by
  have HI := fun W => Tryd.stringslite_Index_one s 58 W
  rw [show Lib.indexByte s.data.toList 58 = Lib.indexB s ⟨#[58]⟩ from (Lib.index_one s.data.toList 58).symm] at HI
  have hsz : (⟨#[58]⟩ : ByteArray).size = 1 := rfl
  rcases Lib.indexB_cases s ⟨#[58]⟩ with hix | ⟨i, hix, hroom⟩
  · obtain ⟨e1, e2, e3⟩ := Lib.cutB_miss s ⟨#[58]⟩ hix
    rw [show (⟨#[58]⟩ : ByteArray).data.toList = [58] from rfl] at e1 e2 e3
    unfold CutOut
    rw [e1, e2, e3]
    rw [hix] at HI
    have HJ := hide HI
    clear HI e1 e2 e3 hix
    go_enter Tryd.func42, Tryd.ntmps42
    go_wp2_with fail
    refine (HJ.out _).mono ?_; rintro e w' ⟨rfl, rfl⟩
    go_wp2_with fail
    go_ret3
    exact ⟨rfl, 0, rfl⟩
  · obtain ⟨e1, e2, e3⟩ := Lib.cutB_hit s ⟨#[58]⟩ i hix
    rw [show (⟨#[58]⟩ : ByteArray).data.toList = [58] from rfl] at e1 e2 e3
    rw [hsz] at e2 hroom
    unfold CutOut
    rw [e1, e2, e3]
    rw [hix] at HI
    have HJ := hide HI
    clear HI e1 e2 e3 hix
    have mixed : Tryd.prog.follows .mixedOrders = true := by kernel_rfl
    have c0 : IntKind.i64.wrap ((i : Int) + 1) = (i : Int) + 1 := by rw [IntKind.wrap_i64]; omega
    have c1 : (0 : Int) ≤ ↑i := by omega
    have c2 : (↑i : Int) ≤ ↑s.size := by omega
    have c3 : (0 : Int) ≤ ↑i + 1 := by omega
    have c4 : (↑i + 1 : Int) ≤ ↑s.size := by omega
    go_enter Tryd.func42, Tryd.ntmps42
    go_wp2_with fail
    refine (HJ.out _).mono ?_; rintro e w' ⟨rfl, rfl⟩
    go_wp2_with fail
    go_region_o
    go_wp2
    go_ret3
    exact ⟨rfl, 1, rfl⟩
theorem cut_colon (s : ByteArray) (w : World) (hs : s.size ≤ 140737488355328) :
    Calls Tryd.prog 25 #[.string s, .string ⟨#[58]⟩] w (CutOut s w) := by
  have HL := hide (fun W => lite_cut s W hs)
  go_enter Tryd.func25, Tryd.ntmps25
  go_wp2_with fail
  refine (HL.out _).mono ?_; rintro e w' ⟨rfl, n, rfl⟩
  go_wp2_with fail
  go_ret3
  exact ⟨rfl, n, rfl⟩

set_option maxHeartbeats 1000000 in
theorem parse_any (s : ByteArray) (w : World) (hs : s.size ≤ 140737488355328) (h : SV w) :
    Calls Tryd.prog 8 #[.string s] w (ParOut (parseA (T s)) w) := by
  have HC := cut_colon s w hs
  unfold CutOut at HC
  obtain ⟨A1, hA1⟩ : ∃ b : ByteArray, b = ⟨(Lib.cut (T s) [58]).1.toArray⟩ := ⟨_, rfl⟩
  obtain ⟨A2, hA2⟩ : ∃ b : ByteArray, b = ⟨(Lib.cut (T s) [58]).2.1.toArray⟩ := ⟨_, rfl⟩
  have hT1 : T A1 = (Lib.cut (T s) [58]).1 := by rw [hA1]; rfl
  have hT2 : T A2 = (Lib.cut (T s) [58]).2.1 := by rw [hA2]; rfl
  rw [show s.data.toList = T s from rfl, ← hA1, ← hA2] at HC
  have hlen : (Lib.cut (T s) [58]).1.length ≤ (T s).length ∧ (Lib.cut (T s) [58]).2.1.length ≤ (T s).length := by
    unfold Lib.cut
    split
    · simp only [List.length_take, List.length_drop]; omega
    · exact ⟨Nat.le_refl _, Nat.zero_le _⟩
  have hL := T_len s
  have hs1 : A1.size ≤ 140737488355328 := by rw [← T_len, hT1]; omega
  have hs2 : A2.size ≤ 140737488355328 := by rw [← T_len, hT2]; omega
  have HN1 := hide (parseA_no1 (l := T s))
  have HN2 := hide (parseA_no2 (l := T s))
  have HY := hide (parseA_yes (l := T s))
  rw [← hT1] at HN1 HY
  rw [← hT2] at HN2 HY
  have HP1 := hide (fun W hW => pu_any A1 W (by omega) hW)
  have HP2 := hide (fun W hW => pu_any A2 W (by omega) hW)
  have hm1 := puN_le (T A1)
  have hm2 := puN_le (T A2)
  have H := hide h
  clear hA1 hA2 hT1 hT2 hlen hL h
  generalize puN (T A1) = M at *
  generalize puN (T A2) = N at *
  generalize puB (T A1) = b1 at *
  generalize puB (T A2) = b2 at *
  generalize hcut : (Lib.cut (T s) [58]).2.2 = fnd at *
  clear hcut
  have HC := hide HC
  have HJ := hide (or_join M N hm1 hm2)
  go_enter Tryd.func8, Tryd.ntmps8
  go_wp2_with fail
  refine HC.out.mono ?_; rintro e w1 ⟨rfl, q, rfl⟩
  have HB1 : Hid (Below w.heap.size w (w.drewN q)) := by have := Lib.below_grow _ w (Nat.le_refl _) q #[]; rwa [Sort.grow_empty] at this
  have H1 := hide (H.out.below HB1.out)
  go_wp2_with fail
  refine (HP1.out _ H1.out).mono ?_; rintro e w2 ⟨e1, rfl, he1, hb2⟩
  have HB2 := hide (below_wide HB1.out hb2)
  have H2 := hide (H.out.below HB2.out)
  clear hb2
  have HE1 := hide he1
  clear he1
  go_wp2_with fail
  refine (HP2.out _ H2.out).mono ?_; rintro e w3 ⟨e2, rfl, he2, hb3⟩
  have HB3 := hide (below_wide HB2.out hb3)
  have H3 := hide (H.out.below HB3.out)
  clear hb3
  have HE2 := hide he2
  clear he2
  rcases HE1.out with ⟨rfl, rfl⟩ | ⟨rfl, N1, rfl⟩
  · rcases HE2.out with ⟨rfl, rfl⟩ | ⟨rfl, N2, rfl⟩
    · have hy := HY.out rfl rfl
      have HT := hide (text_any (M * 65536 + N) w3 (by omega) H3.out)
      rw [← HJ.out] at HT
      by_cases ht : textL (M * 65536 + N) = T s
      all_goals
        first
          | (rw [if_pos ht] at hy)
          | (rw [if_neg ht] at hy)
        have HYY := hide hy
        have HTT := hide ht
        clear hy ht
        go_wp2_with fail
        refine HT.out.mono ?_; rintro e w4 ⟨r, rfl, hr, hrs, hb4⟩
        have HB4 := hide (below_wide HB3.out hb4)
        clear hb4
      · have he : (r.toList == s.toList) = true := by
          rw [ByteArray.toList_eq, ByteArray.toList_eq, show r.data.toList = T r from rfl, show s.data.toList = T s from rfl, hr, HTT.out]; simp
        clear hr
        go_wp2_with fail
        go_ret2
        exact ⟨by rw [HYY.out]; show Ending.returned (.tuple #[.int .u32 (bits .or .u32 ((M : Int) * 65536) (N : Int)), .int .i64 0]) = .returned (.tuple #[.int .u32 ((M * 65536 + N : Nat) : Int), .int .i64 0]); rw [HJ.out], HB4.out⟩
      · have he : (r.toList == s.toList) = false := by
          rw [ByteArray.toList_eq, ByteArray.toList_eq, show r.data.toList = T r from rfl, show s.data.toList = T s from rfl, hr]; simpa using HTT.out
        clear hr
        go_wp2_with fail
        go_ret2
        exact ⟨by rw [HYY.out]; rfl, HB4.out⟩
    · have HYY := hide (HN2.out rfl)
      go_wp2_with fail
      go_ret2
      exact ⟨by rw [HYY.out]; rfl, HB3.out⟩
  · have HYY := hide (HN1.out rfl)
    rcases HE2.out with ⟨rfl, rfl⟩ | ⟨rfl, N2, rfl⟩
    all_goals
      go_wp2_with fail
      go_ret2
      exact ⟨by rw [HYY.out]; rfl, HB3.out⟩
end Go.Proofs.YtopckpjhdbjmbaaDoor.Ld
