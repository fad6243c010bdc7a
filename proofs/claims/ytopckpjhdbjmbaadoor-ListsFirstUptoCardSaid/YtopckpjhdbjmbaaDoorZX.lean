/- The law ListsForms walked: true. -/
import Derived.Test.YtopckpjhdbjmbaaDoorZV
import Derived.Test.YtopckpjhdbjmbaaDoorZJ
namespace Go.Proofs.YtopckpjhdbjmbaaDoor.Ld
open Go.RowKit Go.Proofs.YtopckpjhdbjmbaaDoor.Lx

theorem below_set {B : Nat} {w wr : World} {g j : Nat} {u : Value} (h : Below B w wr) (hg : B ≤ g) : Below B w (wr.setCell ⟨g, j, none⟩ u) :=
  ⟨h.os, h.tape, h.output, by simpa [World.setCell] using h.size, fun k hk => (Below.heap_setCell wr ⟨g, j, none⟩ u k (by show k ≠ g; omega)).trans (h.block k hk)⟩
/-- a slice that may be written to: its row lies from lo on, below hi -/
def Wr (lo hi : Nat) (wr : World) (A : Option Addr) (k : Nat) : Prop := k = 0 ∨ ∃ g cur, A = some ⟨g, 0, none⟩ ∧ lo ≤ g ∧ g < hi ∧ wr.heap[g]? = some (.cells cur 23 (0, 0)) ∧ k ≤ cur.size
theorem Wr.of {lo : Nat} {w : World} {A : Option Addr} {k c : Nat} {xs : List Value} (h : w.ownsRow lo 23 1 (.slice A k c) k xs) : Wr lo w.heap.size w A k := by
  rcases h.2 with ⟨e, rfl⟩ | ⟨g, cap, cur, e, h1, h2, h3, h4, h5, h6⟩
  · exact .inl rfl
  · cases e
    exact .inr ⟨g, cur, rfl, h1, lt_heap h2, h2, by omega⟩
theorem Wr.below {lo hi : Nat} {w w' : World} {A : Option Addr} {k : Nat} (h : Wr lo hi w A k) (hb : Below w.heap.size w w') : Wr lo hi w' A k := by
  rcases h with h | ⟨g, cur, h1, h2, h3, h4, h5⟩
  · exact .inl h
  · exact .inr ⟨g, cur, h1, h2, h3, heapB hb h4, h5⟩
theorem Wr.set {lo hi g j : Nat} {u : Value} {w : World} {A : Option Addr} {k : Nat} (h : Wr lo hi w A k) : Wr lo hi (w.setCell ⟨g, j, none⟩ u) A k := by
  rcases h with h | ⟨g', cur, h1, h2, h3, h4, h5⟩
  · exact .inl h
  · by_cases e : g' = g
    · subst e
      exact .inr ⟨g', _, h1, h2, h3, heap_set h4, by simpa using h5⟩
    · exact .inr ⟨g', cur, h1, h2, h3, heap_far h4 e, h5⟩

theorem Wr.join {lo hi lo2 : Nat} {w w' : World} {A : Option Addr} {k c : Nat} {xs : List Value} (h : Wr lo hi w A k) (ho : w'.ownsRow lo2 23 1 (.slice A k c) k xs) : Wr lo hi w' A k := by
  rcases h with h | ⟨g, cur, h1, h2, h3, h4, h5⟩
  · exact .inl h
  · subst h1
    rcases ho.2 with ⟨e, _⟩ | ⟨g', cap', cur', e, f1, f2, f3, f4, f5, f6⟩
    · cases e
    · cases e
      exact .inr ⟨g, cur', rfl, h2, h3, f2, by omega⟩

theorem same_row (A : Option Addr) (n c : Nat) (A2 : Option Addr) (c2 : Nat) (zs : List Int) (w : World) (hn : n ≤ maxLen) (h1 : Row w A n c zs) (h2 : Row w A2 n c2 zs) :
    Calls Tryd.prog 10 #[.slice A n c, .slice A2 n c2] w fun e w' => e = .returned (.bool true) ∧ Below w.heap.size w w' :=
  same_true A n c A2 c2 _ w hn h1.us h2.us

/-- what both Parses hand back -/
def pV (r : Option Nat) : Int := match r with | some c => (c : Int) | none => 0
def pE (r : Option Nat) : Int := match r with | some _ => 0 | none => 4
theorem parOut {r : Option Nat} {w w' : World} {e : Ending} (h : ParOut r w e w') : e = .returned (.tuple #[.int .u32 (pV r), .int .i64 (pE r)]) ∧ Below w.heap.size w w' := ⟨h.1.trans (by cases r <;> rfl), h.2⟩
theorem parse_pe (s : ByteArray) (w : World) (hs : s.size ≤ 140737488355328) (h : SV w) :
    Calls Tryd.prog 8 #[.string s] w fun e w' => e = .returned (.tuple #[.int .u32 (pV (parseA (T s))), .int .i64 (pE (parseA (T s)))]) ∧ Below w.heap.size w w' := (parse_any s w hs h).mono fun _ _ h => parOut h
theorem rparse_pe (s : ByteArray) (w : World) (hs : s.size ≤ 2000000) :
    Calls Tryd.prog 9 #[.string s] w fun e w' => e = .returned (.tuple #[.int .u32 (pV (parseA (T s))), .int .i64 (pE (parseA (T s)))]) ∧ Below w.heap.size w w' := by
  rw [parse_same]
  exact (rparse_any s w hs).mono fun _ _ h => parOut h
theorem neq_self (x : Int) : (x != x) = false := by simp

set_option maxHeartbeats 4000000 in
set_option maxRecDepth 100000 in
theorem forms_any (A : Option Addr) (n c : Nat) (za : List Int) (B : Option Addr) (m d : Nat) (zb : List Int) (cc : Nat) (s : ByteArray) (w : World)
    (hn : n ≤ 2000000) (hm : m ≤ 2000000) (hs : s.size ≤ 2000000) (hcc : cc < 4294967296) (ha : Row w A n c za) (hb : Row w B m d zb) (hsv : SV w) :
    Calls Tryd.prog 3 #[.slice A n c, .slice B m d, .int .u32 cc, .string s] w fun e w' => e = .returned (.bool true) ∧ Below w.heap.size w w' := by
  obtain ⟨i1, hi1, iz1, is1, ib1⟩ := hasI1
  have hla : za.length = n := ha.1
  have hlb : zb.length = m := hb.1
  have hna := norm_len za
  have hnj := norm_len (za ++ zb)
  rw [List.length_append] at hnj
  have HA := hide ha
  have HB := hide hb
  have HV := hide hsv
  have b1 := bel_one w (.cells #[] 23)
  have HB1 := hide b1
  have SA := hide (ha.below b1).src
  have o1 : (w.alloc (.cells #[] 23)).ownsRow w.heap.size 23 1 (.slice (some ⟨w.heap.size, 0, none⟩) 0 0) 0 [] := World.ownsRow_made w #[] 0 (Nat.le_refl _) (Nat.zero_le _) (by simp)
  have HO1 := hide o1
  clear ha hb hsv b1 o1
  go_enter Tryd.func3, Tryd.ntmps3
  go_wp2_with (at_builtin; refine app_src rfl (.tmp 19) (.tmp 20) 22 rfl w.heap.size 23 i1 _ 1 4 Tryd.underlying22 hi1 iz1 is1 ib1 rfl (by decide) _ 0 [] rfl HO1.out A n c _ rfl SA.out ?ones ?c63 ?cby ?cbase ?_)
  case ones => simp [Value.oneCell']
  case c63 => unfold maxLen; omega
  case cby => omega
  case cbase => exact HB1.out.size
  intro v1 w1 hown1 hgrow1
  have HBx := hide (HB1.out.grown hgrow1 HB1.out.size (fun k hk => (HO1.out.lt _ hk).1))
  try simp only [Nat.zero_add, List.nil_append] at hown1
  obtain ⟨A1, c1, rfl, row1⟩ := Row.own hown1
  have HR1 := hide row1
  clear hown1 hgrow1 row1 HO1 SA HB1
  have b2 := bel_one w1 (.cells #[] 23)
  have HB2 := hide (below_wide HBx.out b2)
  have SB := hide ((HB.out.below HBx.out).below b2).src
  have o2 : (w1.alloc (.cells #[] 23)).ownsRow w1.heap.size 23 1 (.slice (some ⟨w1.heap.size, 0, none⟩) 0 0) 0 [] := World.ownsRow_made w1 #[] 0 (Nat.le_refl _) (Nat.zero_le _) (by simp)
  have HO2 := hide o2
  have HB2' := hide b2
  clear b2 o2
  go_wp2_with (at_builtin; refine app_src rfl (.tmp 22) (.tmp 23) 22 rfl w1.heap.size 23 i1 _ 1 4 Tryd.underlying22 hi1 iz1 is1 ib1 rfl (by decide) _ 0 [] rfl HO2.out B m d _ rfl SB.out ?ones ?c63 ?cby ?cbase ?_)
  case ones => simp [Value.oneCell']
  case c63 => unfold maxLen; omega
  case cby => omega
  case cbase => exact HB2'.out.size
  intro v2 w2 hown2 hgrow2
  have hb12 := HB2'.out.grown hgrow2 HB2'.out.size (fun k hk => (HO2.out.lt _ hk).1)
  have HBy := hide (below_wide HBx.out hb12)
  try simp only [Nat.zero_add, List.nil_append] at hown2
  obtain ⟨A2, c2, rfl, row2⟩ := Row.own hown2
  have HR1' := hide (HR1.out.below hb12)
  have HR2 := hide row2
  have HAr := hide (HA.out.below HBy.out)
  have HBr := hide (HB.out.below HBy.out)
  clear hown2 hgrow2 row2 HO2 SB HB2 HB2' hb12 HR1 HBx
  -- from w2 on only new memory turns
  have HN := hide (normal_any A1 n c1 za w2 (by omega) HR1'.out)
  go_wp2_with fail
  refine HN.out.mono ?_; rintro e w3 ⟨v3, rfl, own3, b3⟩
  obtain ⟨A3, c3, rfl, row3⟩ := Row.own own3
  have HO3 := hide own3
  have HW3 := hide (Wr.of own3)
  have HB3 := hide b3
  have HJ := hide (join_any A1 n c1 za A2 m c2 zb w3 (by omega) (by omega) (HR1'.out.below b3) (HR2.out.below b3))
  clear own3 b3 row3 HN
  go_wp2_with fail
  refine HJ.out.mono ?_; rintro e w4 ⟨v4, rfl, own4, b4⟩
  obtain ⟨A4, c4, rfl, row4⟩ := Row.own own4
  have HO4 := hide own4
  have HW4 := hide (Wr.of own4)
  have HW3 := hide (HW3.out.below b4)
  have HB4 := hide (below_wide HB3.out b4)
  have HX4 := hide b4
  have HO3' := hide (own_below HO3.out b4)
  have HS4 := hide (HB3.out.size)
  have HP := hide (parse_pe s w4 (by omega) ((HV.out.below HBy.out).below HB4.out))
  clear own4 b4 row4 HJ HO3
  go_wp2_with fail
  refine HP.out.mono ?_; rintro e w5 ⟨rfl, b5⟩
  have HB5 := hide (below_wide HB4.out b5)
  have HO3 := hide (own_below HO3'.out b5)
  have HO4' := hide (own_below HO4.out b5)
  have HP2 := hide (rparse_pe s w5 hs)
  clear b5 HP HO3' HO4
  go_wp2_with fail
  refine HP2.out.mono ?_; rintro e w6 ⟨rfl, b6⟩
  have HB6 := hide (below_wide HB5.out b6)
  have HO3' := hide (own_below HO3.out b6)
  have HO4 := hide (own_below HO4'.out b6)
  clear b6 HP2 HO3 HO4'
  have t1 := neq_self (pV (parseA (T s)))
  have t2 := neq_self (pE (parseA (T s)))
  have HN := hide (rnormal_any A n c za w6 (by omega) (HAr.out.below HB6.out))
  go_wp2_with fail
  refine HN.out.mono ?_; rintro e w7 ⟨v7, rfl, own7, b7⟩
  obtain ⟨A7, c7, rfl, row7⟩ := Row.own own7
  have HB7 := hide (below_wide HB6.out b7)
  have HO3 := hide (own_below HO3'.out b7)
  have HO4' := hide (own_below HO4.out b7)
  obtain ⟨A3', c3', e3, row3⟩ := Row.own HO3.out
  cases e3
  have HS := hide (same_row A3 _ c3 A7 c7 (normL za) w7 (by unfold maxLen; omega) row3 row7)
  clear own7 b7 row7 HN HO3' HO4 row3
  go_wp2_with fail
  refine HS.out.mono ?_; rintro e w8 ⟨rfl, b8⟩
  have HB8 := hide (below_wide HB7.out b8)
  have HO3' := hide (own_below HO3.out b8)
  have HO4 := hide (own_below HO4'.out b8)
  have HJ := hide (rjoin_any A n c za B m d zb w8 (by omega) (by omega) (HAr.out.below HB8.out) (HBr.out.below HB8.out))
  clear b8 HS HO3 HO4'
  go_wp2_with fail
  refine HJ.out.mono ?_; rintro e w9 ⟨v9, rfl, own9, b9⟩
  obtain ⟨A9, c9, rfl, row9⟩ := Row.own own9
  have HB9 := hide (below_wide HB8.out b9)
  have HO3 := hide (own_below HO3'.out b9)
  have HO4' := hide (own_below HO4.out b9)
  obtain ⟨A4', c4', e4, row4⟩ := Row.own HO4'.out
  cases e4
  have HS := hide (same_row A4 _ c4 A9 c9 (normL (za ++ zb)) w9 (by unfold maxLen; omega) row4 row9)
  clear own9 b9 row9 HJ HO3' HO4 row4
  go_wp2_with fail
  refine HS.out.mono ?_; rintro e w10 ⟨rfl, b10⟩
  have HB10 := hide (below_wide HB9.out b10)
  have HO3' := hide (own_below HO3.out b10)
  have HO4 := hide (own_below HO4'.out b10)
  have HS2 := hide (same_row A1 n c1 A c za w10 (by unfold maxLen; omega) (HR1'.out.below HB10.out) (HAr.out.below HB10.out))
  clear b10 HS HO3 HO4'
  go_wp2_with fail
  refine HS2.out.mono ?_; rintro e w11 ⟨rfl, b11⟩
  have HB11 := hide (below_wide HB10.out b11)
  have HO3 := hide (own_below HO3'.out b11)
  have HO4' := hide (own_below HO4.out b11)
  have HS3 := hide (same_row A2 m c2 B d zb w11 (by unfold maxLen; omega) (HR2.out.below HB11.out) (HBr.out.below HB11.out))
  clear b11 HS2 HO3' HO4
  go_wp2_with fail
  refine HS3.out.mono ?_; rintro e w12 ⟨rfl, b12⟩
  have HB12 := hide (below_wide HB11.out b12)
  have HO3' := hide (own_below HO3.out b12)
  have HO4 := hide (own_below HO4'.out b12)
  have HT := hide (text_any cc w12 hcc ((HV.out.below HBy.out).below HB12.out))
  clear b12 HS3 HO3 HO4'
  go_wp2_with fail
  refine HT.out.mono ?_; rintro e w13 ⟨r, rfl, hr, hrs, b13⟩
  have HB13 := hide (below_wide HB12.out b13)
  have HO3 := hide (own_below HO3'.out b13)
  have HO4' := hide (own_below HO4.out b13)
  have HR := hide hr
  have HT2 := hide (rtext_any cc w13 hcc)
  clear b13 HT HO3' HO4 hr
  go_wp2_with fail
  refine HT2.out.mono ?_; rintro e w14 ⟨r2, rfl, hr2, hrs2, b14⟩
  have HB14 := hide (below_wide HB13.out b14)
  have HO3' := hide (own_below HO3.out b14)
  have HO4 := hide (own_below HO4'.out b14)
  have he : (r.toList == r2.toList) = true := by
    rw [ByteArray.toList_eq, ByteArray.toList_eq, show r.data.toList = T r from rfl, show r2.data.toList = T r2 from rfl, HR.out, hr2]; simp
  clear b14 HT2 HO3 HO4' hr2
  have HX3 := hide (HW3.out.join HO3'.out)
  have HX4 := hide (HW4.out.join HO4.out)
  have hle3 : w2.heap.size ≤ w3.heap.size := HS4.out
  clear HO3' HO4 HW3 HW4
  generalize (normL za).length = k3 at *
  generalize (normL (za ++ zb)).length = k4 at *
  go_wp2_with fail
  go_loopw [17] (fun j wr => ∃ k : Nat, k ≤ k3 ∧ j = .int .i64 k ∧ Below w2.heap.size w2 wr ∧ Wr w2.heap.size w3.heap.size wr A3 k3 ∧ Wr w3.heap.size w4.heap.size wr A4 k4) (fun j _ => k3 - (intOf j).toNat)
  case atStart => exact ⟨0, Nat.zero_le _, rfl, HB14.out, HX3.out, HX4.out⟩
  case round =>
    obtain ⟨k, hk, rfl, hbr, hw3, hw4⟩ := hrel
    have HB := hide hbr
    have HW4 := hide hw4
    have HW3 := hide hw3
    clear hbr hw4 HX3 HX4 HB14
    by_cases hlt : k < k3
    · rcases hw3 with h | ⟨g, cur, rfl, hg1, hg2, hh, hc⟩
      · omega
      have cl := cell_heap (j := k) hh (Array.getElem?_eq_getElem (by omega))
      have fz := frozen_heap (j := k) hh
      clear hh
      go_wp2_with fail
      go_roundw
      case rel => exact ⟨k + 1, by omega, by go_num, below_set HB.out hg1, HW3.out.set, HW4.out.set⟩
      case measure => simp [intOf]; omega
    · clear hw3
      go_wp2_with fail
      go_loopw [18] (fun j wr => ∃ k : Nat, k ≤ k4 ∧ j = .int .i64 k ∧ Below w2.heap.size w2 wr ∧ Wr w3.heap.size w4.heap.size wr A4 k4) (fun j _ => k4 - (intOf j).toNat)
      case atStart => exact ⟨0, Nat.zero_le _, rfl, HB.out, HW4.out⟩
      case round =>
        obtain ⟨k', hk', rfl, hbr, hw4⟩ := hrel
        have HB := hide hbr
        have HW4 := hide hw4
        clear hbr
        by_cases hlt : k' < k4
        · rcases hw4 with h | ⟨g, cur, rfl, hg1, hg2, hh, hc⟩
          · omega
          have cl := cell_heap (j := k') hh (Array.getElem?_eq_getElem (by omega))
          have fz := frozen_heap (j := k') hh
          clear hh
          go_wp2_with fail
          go_roundw
          case rel => exact ⟨k' + 1, by omega, by go_num, below_set HB.out (by omega), HW4.out.set⟩
          case measure => simp [intOf]; omega
        · clear hw4
          have HS2 := fun W (hb : Below w2.heap.size w2 W) => same_row A1 n c1 A c za W (by unfold maxLen; omega) (HR1'.out.below hb) (HAr.out.below hb)
          have HS3 := fun W (hb : Below w2.heap.size w2 W) => same_row A2 m c2 B d zb W (by unfold maxLen; omega) (HR2.out.below hb) (HBr.out.below hb)
          have HS2' := hide (HS2 _ HB.out)
          have HS3' := hide HS3
          clear HS2 HS3
          go_wp2_with fail
          refine HS2'.out.mono ?_; rintro e wz ⟨rfl, bz⟩
          have HBz := hide (below_wide HB.out bz)
          have HS := hide (HS3'.out _ HBz.out)
          clear bz
          go_wp2_with fail
          refine HS.out.mono ?_; rintro e wy ⟨rfl, by_⟩
          have HBw := hide (below_wide HBz.out by_)
          clear by_
          go_wp2_with fail
          go_ret
          exact ⟨rfl, below_wide HBy.out HBw.out⟩
end Go.Proofs.YtopckpjhdbjmbaaDoor.Ld
