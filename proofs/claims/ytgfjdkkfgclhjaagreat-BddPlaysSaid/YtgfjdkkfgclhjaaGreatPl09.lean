/- What the claim leans on, part 9 of 13: EY0 EY1 EY2 EY3 EY4 EY5. -/
import Derived.Test.YtgfjdkkfgclhjaaGreatPl01
import Derived.Test.YtgfjdkkfgclhjaaGreatPl02
import Derived.Test.YtgfjdkkfgclhjaaGreatPl03
import Derived.Test.YtgfjdkkfgclhjaaGreatPl04
import Derived.Test.YtgfjdkkfgclhjaaGreatPl05
import Derived.Test.YtgfjdkkfgclhjaaGreatPl06
import Derived.Test.YtgfjdkkfgclhjaaGreatPl07
import Derived.Test.YtgfjdkkfgclhjaaGreatPl08
/- makes, walked for acts of kind 0 (printed by gen_ey.py). -/
namespace Go.Proofs.YtgfjdkkfgclhjaaGreat.Bd
open Go.RowKit Go.Proofs.YtgfjdkkfgclhjaaGreat Go.Proofs.YtgfjdkkfgclhjaaGreat.Lx Go.Maps

section
variable {D : Nat → Array Value → TypeId → Prop} {B : Nat} {w w' : World} {pp : Nat} {k : Blk} {s : St} {n ms q : Nat} {ns : List Nat} {Vn : Value} {ts : List Tb} {vs : List Value} {Vt : Value} {Hs : List Tb} {Vh : Value} {Fs : List (Env → Bool)} {xf xg xh xi : Int} {xb : Bool} {A1 A2 A3 : Option Addr} {c1 c2 c3 : Nat} {l1 l2 : List Int} {l3 : List Bool}
set_option maxHeartbeats 16000000 in
set_option maxRecDepth 100000 in
theorem makes0_good_n (h : PlM D B w pp k s n ms ns Vn ts vs Vt Hs Vh) (P : Pl s n ms q Fs ns ts Hs) (L : Live w k s) (hq : q ≤ 60) (X : ActM B w xf xg xh xi A1 c1 l1 A2 c2 l2 A3 c3 l3) (m : Nat) (hm : m = 2 ^ n) (v : Nat) (hxi : xi = (v : Int)) (hv : v < n) (gf : xf < 0) :
    Calls Tryz.prog 9 #[.pointer (some ⟨pp, 0, none⟩), .agg (actC 0 xf xg xh xi xb A1 l1.length c1 A2 l2.length c2 A3 l3.length c3)] w (MkOut D B pp n ms q w) := by
  subst hxi
  have HM := hide hm
  have HBW := hide (Nat.le_trans h.lo (Nat.le_of_lt h.lt))
  have hn6 := P.n6
  clear hm
  have Hof := hide (ofP_neg (m := ns.length) gf)
  clear gf
  have hbx := bel_one w (.cells #[.int .u8 0, .int .i64 xf, .int .i64 xg, .int .i64 xh, .int .i64 v, .bool xb, .slice A1 l1.length c1, .slice A2 l2.length c2, .slice A3 l3.length c3] 39)
  have HP1 := hide (h.below hbx)
  have hx0 := heap_new w (.cells #[.int .u8 0, .int .i64 xf, .int .i64 xg, .int .i64 xh, .int .i64 v, .bool xb, .slice A1 l1.length c1, .slice A2 l2.length c2, .slice A3 l3.length c3] 39)
  have HX1 := hide hx0
  have HL1 := hide (L.below hbx)
  have HX2 := hide (X.below hbx)
  have HB1 := hide hbx
  have HN := hide (fun (v : Int) (hv : I64 v) (z : World) (hz : PlM D B z pp k s n ms ns Vn ts vs Vt Hs Vh) => of_any hz P.two (by have := P.sm; omega) v hv)
  have HPL := hide P
  have HI := hide (And.intro X.f (And.intro X.g (And.intro X.h X.i)))
  clear h X L hbx hx0 P
  go_enter Tryz.func9, Tryz.ntmps9
  go_upto_region 1 with fail
  generalize w.alloc (.cells #[.int .u8 0, .int .i64 xf, .int .i64 xg, .int .i64 xh, .int .i64 v, .bool xb, .slice A1 l1.length c1, .slice A2 l2.length c2, .slice A3 l3.length c3] 39) = w1 at *
  have b1 := lat_cell (cell_heap (j := 1) HX1.out rfl)
  have b2 := lat_cell (cell_heap (j := 2) HX1.out rfl)
  have b3 := lat_cell (cell_heap (j := 3) HX1.out rfl)
  have HF := hide (fun z => HN.out xf HI.out.1 (lat w1 z) (HP1.out.below (lat_below w1 z)))
  have HG := hide (fun z => HN.out xg HI.out.2.1 (lat w1 z) (HP1.out.below (lat_below w1 z)))
  have HH := hide (fun z => HN.out xh HI.out.2.2.1 (lat w1 z) (HP1.out.below (lat_below w1 z)))
  rw [Hof.out] at HF
  generalize ofP ns.length xg = yg at *
  generalize ofP ns.length xh = yh at *
  have dv : decide ((v : Int) < 0) = false := decide_eq_false (by omega)
  have dw : decide ((n : Int) ≤ (v : Int)) = false := decide_eq_false (by omega)
  clear HN HI
  go_wp2_with fail
  refine wp_region_lat (by kernel_rfl) (by kernel_rfl) ?_
  repeat (first | go_big_quiet_step ((first | (go_at_call 12; with_reducible exact calls_lat_same (HF.out _)) | (go_at_call 12; with_reducible exact calls_lat_same (HG.out _)) | (go_at_call 12; with_reducible exact calls_lat_same (HH.out _)))) | quiet_step ((first | (go_at_call 12; with_reducible exact calls_lat_same (HF.out _)) | (go_at_call 12; with_reducible exact calls_lat_same (HG.out _)) | (go_at_call 12; with_reducible exact calls_lat_same (HH.out _)))))
  refine wpQuiet_nil ?_
  intro _ hlat
  obtain ⟨wq, rfl⟩ := hlat
  have HP2 := hide (HP1.out.below (lat_below w1 wq))
  have hx2 := heapB (lat_below w1 wq) HX1.out
  have HX12 := hide hx2
  have HL2 := hide (HL1.out.below (lat_below w1 wq))
  have HX3 := hide (HX2.out.below (lat_below w1 wq))
  have HB2 := hide (below_wide HB1.out (lat_below w1 wq))
  clear HP1 HX1 HL1 HX2 HB1 b1 b2 b3 HF HG HH
  generalize lat w1 wq = w2 at *
  have hd := cell_heap (j := 0) hx2 rfl
  have hdq := lat_cell hd
  have y4 := lat_cell (cell_heap (j := 4) hx2 rfl)
  have yn := lat_cell (HP2.out.cell (j := 1) rfl)
  clear hx2
  go_wp2_with fail
  simp only [List.append_eq, List.cons_append, List.nil_append]
  refine wp_region_lat (by kernel_rfl) (lex_of (by kernel_rfl) lex7) ?_
  repeat (first | go_big_quiet_step ((fail)) | quiet_step ((fail)))
  refine wpQuiet_nil ?_
  intro _ hlat
  obtain ⟨wp, rfl⟩ := hlat
  have HP3 := hide (HP2.out.below (lat_below w2 wp))
  have hx3 := heapB (lat_below w2 wp) HX12.out
  have HX13 := hide hx3
  have HL3 := hide (HL2.out.below (lat_below w2 wp))
  have HX4 := hide (HX3.out.below (lat_below w2 wp))
  have HB3 := hide (below_wide HB2.out (lat_below w2 wp))
  clear HP2 HX12 HL2 HX3 HB2 hd hdq y4 yn
  generalize lat w2 wp = w3 at *
  have z0 := cell_heap (j := 0) hx3 rfl
  have z1 := cell_heap (j := 1) hx3 rfl
  have z2 := cell_heap (j := 2) hx3 rfl
  have z3 := cell_heap (j := 3) hx3 rfl
  have z4 := cell_heap (j := 4) hx3 rfl
  have z5 := cell_heap (j := 5) hx3 rfl
  have z6 := cell_heap (j := 6) hx3 rfl
  have z7 := cell_heap (j := 7) hx3 rfl
  have z8 := cell_heap (j := 8) hx3 rfl
  clear hx3
  have HCALL := hide (call0_good (xb := xb) HP3.out HPL.out HL3.out hq HX4.out v rfl hv )
  go_wp2_with fail
  refine HCALL.out.mono ?_
  intro e w4 ho
  have hans := HPL.out.answer HL3.out hq ho
  clear ho HCALL z0 z1 z2 z3 z4 z5 z6 z7 z8
  rcases hans with ⟨k4, s4, rfl, L4, T4, P4, hful⟩ | ⟨k4, s4, r, rfl, L4, T4, P4, hok, hr, hcmp⟩
  · have HPF := hide hful
    clear hful
    have HP4 := hide (HP3.out.turn T4 L4.ar)
    have HX14 := hide (T4.heap HX13.out (fp_type HP3.out.ar HX13.out (by decide) (by decide)))
    have HX5 := hide (HX4.out.turn HP3.out T4)
    have HB4 := hide (show Below B w w4 from (HB3.out.mono HBW.out).trans (T4.low HP3.out.fpl (Nat.le_trans HP3.out.lo (Nat.le_of_lt HP3.out.lt))))
    have HL4 := hide L4
    have HPL4 := hide P4
    clear L4 T4 P4 HP3 HX13 HX4 HB3
    have y1 := HP4.out.cell (j := 1) rfl
    go_wp2_with fail
    with_reducible refine (All_t HM.out hn6 false).mono ?_
    rintro e w5 ⟨gno, rfl, hno, hb⟩
    have HP5 := hide (HP4.out.below hb)
    have HX15 := hide (heapB hb HX14.out)
    have HX6 := hide (HX5.out.below hb)
    have HB5 := hide (HB4.out.trans (hb.mono (Nat.le_trans HP4.out.lo (Nat.le_of_lt HP4.out.lt))))
    have HL5 := hide (HL4.out.below hb)
    have HNO := hide hno
    clear hno hb y1 HP4 HX14 HX5 HB4 HL4
    have y1 := HP5.out.cell (j := 1) rfl
    go_wp2_with fail
    with_reducible refine (All_t HM.out hn6 true).mono ?_
    rintro e w6 ⟨gye, rfl, hye, hb⟩
    have HP6 := hide (HP5.out.below hb)
    have HX16 := hide (heapB hb HX15.out)
    have HX7 := hide (HX6.out.below hb)
    have HB6 := hide (HB5.out.trans (hb.mono (Nat.le_trans HP5.out.lo (Nat.le_of_lt HP5.out.lt))))
    have HL6 := hide (HL5.out.below hb)
    have HNO6 := hide (HNO.out.below hb)
    have HYE6 := hide hye
    clear hye hb y1 HP5 HX15 HX6 HB5 HL5 HNO
    have hd6 := cell_heap (j := 0) HX16.out rfl
    have HSX := hide (show Below w6.heap.size w6 w6.drew from (Below.refl _ _).drew)
    have y1 := HP6.out.cell (j := 1) rfl
    have x4 := cell_heap (j := 4) HX16.out rfl
    have HP7 := hide (HP6.out.below HSX.out)
    have HX8 := hide (HX7.out.below HSX.out)
    have HB7 := hide (HB6.out.trans (HSX.out.mono (Nat.le_trans HP6.out.lo (Nat.le_of_lt HP6.out.lt))))
    have HL7 := hide (HL6.out.below HSX.out)
    have HNO7 := hide (HNO6.out.below HSX.out)
    have HYE7 := hide (HYE6.out.below HSX.out)
    have q1 := fun z => cellB (pin_in (S := Below w6.heap.size w6) HSX.out z) y1
    have qx4 := fun z => cellB (pin_in (S := Below w6.heap.size w6) HSX.out z) x4
    clear y1 x4 HP6 HX7 HB6 HL6 HNO6 HYE6
    go_wp2_with fail
    refine wp_region_tree ((Below w6.heap.size w6)) (fun k => ([] : List Nat).contains k) (.take [0, 1, 2, 3, 4, 5] (.step 6 (.take [7] .done))) (by kernel_rfl) (by kernel_rfl) (by kernel_rfl) (by kernel_rfl) (.take (.cons (.zero) (.cons (.succ (.zero)) (.cons (.succ (.succ (.zero))) (.cons (.succ (.succ (.succ (.zero)))) (.cons (.succ (.succ (.succ (.succ (.zero))))) (.cons (.succ (.succ (.succ (.succ (.succ (.zero)))))) .nil)))))) (.step (.succ (.succ (.succ (.succ (.succ (.succ (.zero))))))) rfl (.take (.cons (.succ (.succ (.succ (.succ (.succ (.succ (.succ (.zero)))))))) .nil) .done))) ?hQ ?hS ?_
    case hQ => exact fun _ _ _ _ _ h => h
    case hS => exact HSX.out
    refine wpT_take ?_
    repeat (first | go_big_quiet_step ((fail)) | quiet_step ((fail)))
    refine wpQuiet_nil ?_
    clear q1 qx4 hd6
    generalize w6.drew = x6 at *
    refine wpT_step rfl ?_
    intro K1 hK1
    go_wp2_with fail
    with_reducible refine (Var_t HM.out hn6 hv).mono ?_
    rintro e w7 ⟨gt, rfl, ht, hb⟩
    have HSZ := hide (HSX.out.trans (hb.mono HSX.out.size))
    have HT7 := hide ht
    have HP8 := hide (HP7.out.below hb)
    have HL8 := hide (HL7.out.below hb)
    have HB8 := hide (HB7.out.trans (hb.mono (Nat.le_trans HP7.out.lo (Nat.le_of_lt HP7.out.lt))))
    clear ht hb
    refine hK1.out _ _ (fun _ => pin_mem HSZ.out) ?_
    clear hK1
    refine wpT_take ?_
    repeat (first | go_big_quiet_step ((fail)) | quiet_step ((fail)))
    refine wpQuiet_nil ?_
    refine wpT_done ?_
    go_wp2_with fail
    with_reducible refine (give_full HP8.out HPL4.out HL8.out HM.out HT7.out HPF.out).mono ?_
    intro e w8 ho
    have HO := hide (ho.after HB8.out)
    obtain ⟨he, _⟩ := ho
    subst he
    go_wp2_with fail
    go_ret
    exact HO.out
  · have HPK := hide (And.intro hok (And.intro hr hcmp))
    clear hok hr hcmp
    have HP4 := hide (HP3.out.turn T4 L4.ar)
    have HX14 := hide (T4.heap HX13.out (fp_type HP3.out.ar HX13.out (by decide) (by decide)))
    have HX5 := hide (HX4.out.turn HP3.out T4)
    have HB4 := hide (show Below B w w4 from (HB3.out.mono HBW.out).trans (T4.low HP3.out.fpl (Nat.le_trans HP3.out.lo (Nat.le_of_lt HP3.out.lt))))
    have HL4 := hide L4
    have HPL4 := hide P4
    clear L4 T4 P4 HP3 HX13 HX4 HB3
    have y1 := HP4.out.cell (j := 1) rfl
    go_wp2_with fail
    with_reducible refine (All_t HM.out hn6 false).mono ?_
    rintro e w5 ⟨gno, rfl, hno, hb⟩
    have HP5 := hide (HP4.out.below hb)
    have HX15 := hide (heapB hb HX14.out)
    have HX6 := hide (HX5.out.below hb)
    have HB5 := hide (HB4.out.trans (hb.mono (Nat.le_trans HP4.out.lo (Nat.le_of_lt HP4.out.lt))))
    have HL5 := hide (HL4.out.below hb)
    have HNO := hide hno
    clear hno hb y1 HP4 HX14 HX5 HB4 HL4
    have y1 := HP5.out.cell (j := 1) rfl
    go_wp2_with fail
    with_reducible refine (All_t HM.out hn6 true).mono ?_
    rintro e w6 ⟨gye, rfl, hye, hb⟩
    have HP6 := hide (HP5.out.below hb)
    have HX16 := hide (heapB hb HX15.out)
    have HX7 := hide (HX6.out.below hb)
    have HB6 := hide (HB5.out.trans (hb.mono (Nat.le_trans HP5.out.lo (Nat.le_of_lt HP5.out.lt))))
    have HL6 := hide (HL5.out.below hb)
    have HNO6 := hide (HNO.out.below hb)
    have HYE6 := hide hye
    clear hye hb y1 HP5 HX15 HX6 HB5 HL5 HNO
    have hd6 := cell_heap (j := 0) HX16.out rfl
    have HSX := hide (show Below w6.heap.size w6 w6.drew from (Below.refl _ _).drew)
    have y1 := HP6.out.cell (j := 1) rfl
    have x4 := cell_heap (j := 4) HX16.out rfl
    have HP7 := hide (HP6.out.below HSX.out)
    have HX8 := hide (HX7.out.below HSX.out)
    have HB7 := hide (HB6.out.trans (HSX.out.mono (Nat.le_trans HP6.out.lo (Nat.le_of_lt HP6.out.lt))))
    have HL7 := hide (HL6.out.below HSX.out)
    have HNO7 := hide (HNO6.out.below HSX.out)
    have HYE7 := hide (HYE6.out.below HSX.out)
    have q1 := fun z => cellB (pin_in (S := Below w6.heap.size w6) HSX.out z) y1
    have qx4 := fun z => cellB (pin_in (S := Below w6.heap.size w6) HSX.out z) x4
    clear y1 x4 HP6 HX7 HB6 HL6 HNO6 HYE6
    go_wp2_with fail
    refine wp_region_tree ((Below w6.heap.size w6)) (fun k => ([] : List Nat).contains k) (.take [0, 1, 2, 3, 4, 5] (.step 6 (.take [7] .done))) (by kernel_rfl) (by kernel_rfl) (by kernel_rfl) (by kernel_rfl) (.take (.cons (.zero) (.cons (.succ (.zero)) (.cons (.succ (.succ (.zero))) (.cons (.succ (.succ (.succ (.zero)))) (.cons (.succ (.succ (.succ (.succ (.zero))))) (.cons (.succ (.succ (.succ (.succ (.succ (.zero)))))) .nil)))))) (.step (.succ (.succ (.succ (.succ (.succ (.succ (.zero))))))) rfl (.take (.cons (.succ (.succ (.succ (.succ (.succ (.succ (.succ (.zero)))))))) .nil) .done))) ?hQ ?hS ?_
    case hQ => exact fun _ _ _ _ _ h => h
    case hS => exact HSX.out
    refine wpT_take ?_
    repeat (first | go_big_quiet_step ((fail)) | quiet_step ((fail)))
    refine wpQuiet_nil ?_
    clear q1 qx4 hd6
    generalize w6.drew = x6 at *
    refine wpT_step rfl ?_
    intro K1 hK1
    go_wp2_with fail
    with_reducible refine (Var_t HM.out hn6 hv).mono ?_
    rintro e w7 ⟨gt, rfl, ht, hb⟩
    have HSZ := hide (HSX.out.trans (hb.mono HSX.out.size))
    have HT7 := hide ht
    have HP8 := hide (HP7.out.below hb)
    have HL8 := hide (HL7.out.below hb)
    have HB8 := hide (HB7.out.trans (hb.mono (Nat.le_trans HP7.out.lo (Nat.le_of_lt HP7.out.lt))))
    clear ht hb
    refine hK1.out _ _ (fun _ => pin_mem HSZ.out) ?_
    clear hK1
    refine wpT_take ?_
    repeat (first | go_big_quiet_step ((fail)) | quiet_step ((fail)))
    refine wpQuiet_nil ?_
    refine wpT_done ?_
    go_wp2_with fail
    with_reducible refine (give_ok HP8.out HPL.out HL3.out hq HPL4.out HL8.out HM.out HT7.out HPK.out.1 HPK.out.2.1 HPK.out.2.2).mono ?_
    intro e w8 ho
    have HO := hide (ho.after HB8.out)
    obtain ⟨he, _⟩ := ho
    subst he
    go_wp2_with fail
    go_ret
    exact HO.out
set_option maxHeartbeats 16000000 in
set_option maxRecDepth 100000 in
theorem makes0_good_p (h : PlM D B w pp k s n ms ns Vn ts vs Vt Hs Vh) (P : Pl s n ms q Fs ns ts Hs) (L : Live w k s) (hq : q ≤ 60) (X : ActM B w xf xg xh xi A1 c1 l1 A2 c2 l2 A3 c3 l3) (m : Nat) (hm : m = 2 ^ n) (v : Nat) (hxi : xi = (v : Int)) (hv : v < n) (gf : 0 ≤ xf) :
    Calls Tryz.prog 9 #[.pointer (some ⟨pp, 0, none⟩), .agg (actC 0 xf xg xh xi xb A1 l1.length c1 A2 l2.length c2 A3 l3.length c3)] w (MkOut D B pp n ms q w) := by
  subst hxi
  have HM := hide hm
  have HBW := hide (Nat.le_trans h.lo (Nat.le_of_lt h.lt))
  have hn6 := P.n6
  clear hm
  obtain ⟨jf, hjf⟩ : ∃ j : Nat, ofP ns.length xf = (j : Int) := ⟨_, ofP_pos gf⟩
  have Hof := hide hjf
  have df : decide ((jf : Int) < 0) = false := decide_eq_false (by omega)
  clear hjf gf
  have hbx := bel_one w (.cells #[.int .u8 0, .int .i64 xf, .int .i64 xg, .int .i64 xh, .int .i64 v, .bool xb, .slice A1 l1.length c1, .slice A2 l2.length c2, .slice A3 l3.length c3] 39)
  have HP1 := hide (h.below hbx)
  have hx0 := heap_new w (.cells #[.int .u8 0, .int .i64 xf, .int .i64 xg, .int .i64 xh, .int .i64 v, .bool xb, .slice A1 l1.length c1, .slice A2 l2.length c2, .slice A3 l3.length c3] 39)
  have HX1 := hide hx0
  have HL1 := hide (L.below hbx)
  have HX2 := hide (X.below hbx)
  have HB1 := hide hbx
  have HN := hide (fun (v : Int) (hv : I64 v) (z : World) (hz : PlM D B z pp k s n ms ns Vn ts vs Vt Hs Vh) => of_any hz P.two (by have := P.sm; omega) v hv)
  have HPL := hide P
  have HI := hide (And.intro X.f (And.intro X.g (And.intro X.h X.i)))
  clear h X L hbx hx0 P
  go_enter Tryz.func9, Tryz.ntmps9
  go_upto_region 1 with fail
  generalize w.alloc (.cells #[.int .u8 0, .int .i64 xf, .int .i64 xg, .int .i64 xh, .int .i64 v, .bool xb, .slice A1 l1.length c1, .slice A2 l2.length c2, .slice A3 l3.length c3] 39) = w1 at *
  have b1 := lat_cell (cell_heap (j := 1) HX1.out rfl)
  have b2 := lat_cell (cell_heap (j := 2) HX1.out rfl)
  have b3 := lat_cell (cell_heap (j := 3) HX1.out rfl)
  have HF := hide (fun z => HN.out xf HI.out.1 (lat w1 z) (HP1.out.below (lat_below w1 z)))
  have HG := hide (fun z => HN.out xg HI.out.2.1 (lat w1 z) (HP1.out.below (lat_below w1 z)))
  have HH := hide (fun z => HN.out xh HI.out.2.2.1 (lat w1 z) (HP1.out.below (lat_below w1 z)))
  rw [Hof.out] at HF
  generalize ofP ns.length xg = yg at *
  generalize ofP ns.length xh = yh at *
  have dv : decide ((v : Int) < 0) = false := decide_eq_false (by omega)
  have dw : decide ((n : Int) ≤ (v : Int)) = false := decide_eq_false (by omega)
  clear HN HI
  go_wp2_with fail
  refine wp_region_lat (by kernel_rfl) (by kernel_rfl) ?_
  repeat (first | go_big_quiet_step ((first | (go_at_call 12; with_reducible exact calls_lat_same (HF.out _)) | (go_at_call 12; with_reducible exact calls_lat_same (HG.out _)) | (go_at_call 12; with_reducible exact calls_lat_same (HH.out _)))) | quiet_step ((first | (go_at_call 12; with_reducible exact calls_lat_same (HF.out _)) | (go_at_call 12; with_reducible exact calls_lat_same (HG.out _)) | (go_at_call 12; with_reducible exact calls_lat_same (HH.out _)))))
  refine wpQuiet_nil ?_
  intro _ hlat
  obtain ⟨wq, rfl⟩ := hlat
  have HP2 := hide (HP1.out.below (lat_below w1 wq))
  have hx2 := heapB (lat_below w1 wq) HX1.out
  have HX12 := hide hx2
  have HL2 := hide (HL1.out.below (lat_below w1 wq))
  have HX3 := hide (HX2.out.below (lat_below w1 wq))
  have HB2 := hide (below_wide HB1.out (lat_below w1 wq))
  clear HP1 HX1 HL1 HX2 HB1 b1 b2 b3 HF HG HH
  generalize lat w1 wq = w2 at *
  have hd := cell_heap (j := 0) hx2 rfl
  have hdq := lat_cell hd
  have y4 := lat_cell (cell_heap (j := 4) hx2 rfl)
  have yn := lat_cell (HP2.out.cell (j := 1) rfl)
  clear hx2
  go_wp2_with fail
  simp only [List.append_eq, List.cons_append, List.nil_append]
  refine wp_region_lat (by kernel_rfl) (lex_of (by kernel_rfl) lex7) ?_
  repeat (first | go_big_quiet_step ((fail)) | quiet_step ((fail)))
  refine wpQuiet_nil ?_
  intro _ hlat
  obtain ⟨wp, rfl⟩ := hlat
  have HP3 := hide (HP2.out.below (lat_below w2 wp))
  have hx3 := heapB (lat_below w2 wp) HX12.out
  have HX13 := hide hx3
  have HL3 := hide (HL2.out.below (lat_below w2 wp))
  have HX4 := hide (HX3.out.below (lat_below w2 wp))
  have HB3 := hide (below_wide HB2.out (lat_below w2 wp))
  clear HP2 HX12 HL2 HX3 HB2 hd hdq y4 yn
  generalize lat w2 wp = w3 at *
  have z0 := cell_heap (j := 0) hx3 rfl
  have z1 := cell_heap (j := 1) hx3 rfl
  have z2 := cell_heap (j := 2) hx3 rfl
  have z3 := cell_heap (j := 3) hx3 rfl
  have z4 := cell_heap (j := 4) hx3 rfl
  have z5 := cell_heap (j := 5) hx3 rfl
  have z6 := cell_heap (j := 6) hx3 rfl
  have z7 := cell_heap (j := 7) hx3 rfl
  have z8 := cell_heap (j := 8) hx3 rfl
  clear hx3
  have HCALL := hide (call0_good (xb := xb) HP3.out HPL.out HL3.out hq HX4.out v rfl hv )
  go_wp2_with fail
  refine HCALL.out.mono ?_
  intro e w4 ho
  have hans := HPL.out.answer HL3.out hq ho
  clear ho HCALL z0 z1 z2 z3 z4 z5 z6 z7 z8
  rcases hans with ⟨k4, s4, rfl, L4, T4, P4, hful⟩ | ⟨k4, s4, r, rfl, L4, T4, P4, hok, hr, hcmp⟩
  · have HPF := hide hful
    clear hful
    have HP4 := hide (HP3.out.turn T4 L4.ar)
    have HX14 := hide (T4.heap HX13.out (fp_type HP3.out.ar HX13.out (by decide) (by decide)))
    have HX5 := hide (HX4.out.turn HP3.out T4)
    have HB4 := hide (show Below B w w4 from (HB3.out.mono HBW.out).trans (T4.low HP3.out.fpl (Nat.le_trans HP3.out.lo (Nat.le_of_lt HP3.out.lt))))
    have HL4 := hide L4
    have HPL4 := hide P4
    clear L4 T4 P4 HP3 HX13 HX4 HB3
    have y1 := HP4.out.cell (j := 1) rfl
    go_wp2_with fail
    with_reducible refine (All_t HM.out hn6 false).mono ?_
    rintro e w5 ⟨gno, rfl, hno, hb⟩
    have HP5 := hide (HP4.out.below hb)
    have HX15 := hide (heapB hb HX14.out)
    have HX6 := hide (HX5.out.below hb)
    have HB5 := hide (HB4.out.trans (hb.mono (Nat.le_trans HP4.out.lo (Nat.le_of_lt HP4.out.lt))))
    have HL5 := hide (HL4.out.below hb)
    have HNO := hide hno
    clear hno hb y1 HP4 HX14 HX5 HB4 HL4
    have y1 := HP5.out.cell (j := 1) rfl
    go_wp2_with fail
    with_reducible refine (All_t HM.out hn6 true).mono ?_
    rintro e w6 ⟨gye, rfl, hye, hb⟩
    have HP6 := hide (HP5.out.below hb)
    have HX16 := hide (heapB hb HX15.out)
    have HX7 := hide (HX6.out.below hb)
    have HB6 := hide (HB5.out.trans (hb.mono (Nat.le_trans HP5.out.lo (Nat.le_of_lt HP5.out.lt))))
    have HL6 := hide (HL5.out.below hb)
    have HNO6 := hide (HNO.out.below hb)
    have HYE6 := hide hye
    clear hye hb y1 HP5 HX15 HX6 HB5 HL5 HNO
    have hd6 := cell_heap (j := 0) HX16.out rfl
    have HSX := hide (show Below w6.heap.size w6 w6.drew from (Below.refl _ _).drew)
    have y1 := HP6.out.cell (j := 1) rfl
    have x4 := cell_heap (j := 4) HX16.out rfl
    have HP7 := hide (HP6.out.below HSX.out)
    have HX8 := hide (HX7.out.below HSX.out)
    have HB7 := hide (HB6.out.trans (HSX.out.mono (Nat.le_trans HP6.out.lo (Nat.le_of_lt HP6.out.lt))))
    have HL7 := hide (HL6.out.below HSX.out)
    have HNO7 := hide (HNO6.out.below HSX.out)
    have HYE7 := hide (HYE6.out.below HSX.out)
    have q1 := fun z => cellB (pin_in (S := Below w6.heap.size w6) HSX.out z) y1
    have qx4 := fun z => cellB (pin_in (S := Below w6.heap.size w6) HSX.out z) x4
    clear y1 x4 HP6 HX7 HB6 HL6 HNO6 HYE6
    go_wp2_with fail
    refine wp_region_tree ((Below w6.heap.size w6)) (fun k => ([] : List Nat).contains k) (.take [0, 1, 2, 3, 4, 5] (.step 6 (.take [7] .done))) (by kernel_rfl) (by kernel_rfl) (by kernel_rfl) (by kernel_rfl) (.take (.cons (.zero) (.cons (.succ (.zero)) (.cons (.succ (.succ (.zero))) (.cons (.succ (.succ (.succ (.zero)))) (.cons (.succ (.succ (.succ (.succ (.zero))))) (.cons (.succ (.succ (.succ (.succ (.succ (.zero)))))) .nil)))))) (.step (.succ (.succ (.succ (.succ (.succ (.succ (.zero))))))) rfl (.take (.cons (.succ (.succ (.succ (.succ (.succ (.succ (.succ (.zero)))))))) .nil) .done))) ?hQ ?hS ?_
    case hQ => exact fun _ _ _ _ _ h => h
    case hS => exact HSX.out
    refine wpT_take ?_
    repeat (first | go_big_quiet_step ((fail)) | quiet_step ((fail)))
    refine wpQuiet_nil ?_
    clear q1 qx4 hd6
    generalize w6.drew = x6 at *
    refine wpT_step rfl ?_
    intro K1 hK1
    go_wp2_with fail
    with_reducible refine (Var_t HM.out hn6 hv).mono ?_
    rintro e w7 ⟨gt, rfl, ht, hb⟩
    have HSZ := hide (HSX.out.trans (hb.mono HSX.out.size))
    have HT7 := hide ht
    have HP8 := hide (HP7.out.below hb)
    have HL8 := hide (HL7.out.below hb)
    have HB8 := hide (HB7.out.trans (hb.mono (Nat.le_trans HP7.out.lo (Nat.le_of_lt HP7.out.lt))))
    clear ht hb
    refine hK1.out _ _ (fun _ => pin_mem HSZ.out) ?_
    clear hK1
    refine wpT_take ?_
    repeat (first | go_big_quiet_step ((fail)) | quiet_step ((fail)))
    refine wpQuiet_nil ?_
    refine wpT_done ?_
    go_wp2_with fail
    with_reducible refine (give_full HP8.out HPL4.out HL8.out HM.out HT7.out HPF.out).mono ?_
    intro e w8 ho
    have HO := hide (ho.after HB8.out)
    obtain ⟨he, _⟩ := ho
    subst he
    go_wp2_with fail
    go_ret
    exact HO.out
  · have HPK := hide (And.intro hok (And.intro hr hcmp))
    clear hok hr hcmp
    have HP4 := hide (HP3.out.turn T4 L4.ar)
    have HX14 := hide (T4.heap HX13.out (fp_type HP3.out.ar HX13.out (by decide) (by decide)))
    have HX5 := hide (HX4.out.turn HP3.out T4)
    have HB4 := hide (show Below B w w4 from (HB3.out.mono HBW.out).trans (T4.low HP3.out.fpl (Nat.le_trans HP3.out.lo (Nat.le_of_lt HP3.out.lt))))
    have HL4 := hide L4
    have HPL4 := hide P4
    clear L4 T4 P4 HP3 HX13 HX4 HB3
    have y1 := HP4.out.cell (j := 1) rfl
    go_wp2_with fail
    with_reducible refine (All_t HM.out hn6 false).mono ?_
    rintro e w5 ⟨gno, rfl, hno, hb⟩
    have HP5 := hide (HP4.out.below hb)
    have HX15 := hide (heapB hb HX14.out)
    have HX6 := hide (HX5.out.below hb)
    have HB5 := hide (HB4.out.trans (hb.mono (Nat.le_trans HP4.out.lo (Nat.le_of_lt HP4.out.lt))))
    have HL5 := hide (HL4.out.below hb)
    have HNO := hide hno
    clear hno hb y1 HP4 HX14 HX5 HB4 HL4
    have y1 := HP5.out.cell (j := 1) rfl
    go_wp2_with fail
    with_reducible refine (All_t HM.out hn6 true).mono ?_
    rintro e w6 ⟨gye, rfl, hye, hb⟩
    have HP6 := hide (HP5.out.below hb)
    have HX16 := hide (heapB hb HX15.out)
    have HX7 := hide (HX6.out.below hb)
    have HB6 := hide (HB5.out.trans (hb.mono (Nat.le_trans HP5.out.lo (Nat.le_of_lt HP5.out.lt))))
    have HL6 := hide (HL5.out.below hb)
    have HNO6 := hide (HNO.out.below hb)
    have HYE6 := hide hye
    clear hye hb y1 HP5 HX15 HX6 HB5 HL5 HNO
    have hd6 := cell_heap (j := 0) HX16.out rfl
    have HSX := hide (show Below w6.heap.size w6 w6.drew from (Below.refl _ _).drew)
    have y1 := HP6.out.cell (j := 1) rfl
    have x4 := cell_heap (j := 4) HX16.out rfl
    have HP7 := hide (HP6.out.below HSX.out)
    have HX8 := hide (HX7.out.below HSX.out)
    have HB7 := hide (HB6.out.trans (HSX.out.mono (Nat.le_trans HP6.out.lo (Nat.le_of_lt HP6.out.lt))))
    have HL7 := hide (HL6.out.below HSX.out)
    have HNO7 := hide (HNO6.out.below HSX.out)
    have HYE7 := hide (HYE6.out.below HSX.out)
    have q1 := fun z => cellB (pin_in (S := Below w6.heap.size w6) HSX.out z) y1
    have qx4 := fun z => cellB (pin_in (S := Below w6.heap.size w6) HSX.out z) x4
    clear y1 x4 HP6 HX7 HB6 HL6 HNO6 HYE6
    go_wp2_with fail
    refine wp_region_tree ((Below w6.heap.size w6)) (fun k => ([] : List Nat).contains k) (.take [0, 1, 2, 3, 4, 5] (.step 6 (.take [7] .done))) (by kernel_rfl) (by kernel_rfl) (by kernel_rfl) (by kernel_rfl) (.take (.cons (.zero) (.cons (.succ (.zero)) (.cons (.succ (.succ (.zero))) (.cons (.succ (.succ (.succ (.zero)))) (.cons (.succ (.succ (.succ (.succ (.zero))))) (.cons (.succ (.succ (.succ (.succ (.succ (.zero)))))) .nil)))))) (.step (.succ (.succ (.succ (.succ (.succ (.succ (.zero))))))) rfl (.take (.cons (.succ (.succ (.succ (.succ (.succ (.succ (.succ (.zero)))))))) .nil) .done))) ?hQ ?hS ?_
    case hQ => exact fun _ _ _ _ _ h => h
    case hS => exact HSX.out
    refine wpT_take ?_
    repeat (first | go_big_quiet_step ((fail)) | quiet_step ((fail)))
    refine wpQuiet_nil ?_
    clear q1 qx4 hd6
    generalize w6.drew = x6 at *
    refine wpT_step rfl ?_
    intro K1 hK1
    go_wp2_with fail
    with_reducible refine (Var_t HM.out hn6 hv).mono ?_
    rintro e w7 ⟨gt, rfl, ht, hb⟩
    have HSZ := hide (HSX.out.trans (hb.mono HSX.out.size))
    have HT7 := hide ht
    have HP8 := hide (HP7.out.below hb)
    have HL8 := hide (HL7.out.below hb)
    have HB8 := hide (HB7.out.trans (hb.mono (Nat.le_trans HP7.out.lo (Nat.le_of_lt HP7.out.lt))))
    clear ht hb
    refine hK1.out _ _ (fun _ => pin_mem HSZ.out) ?_
    clear hK1
    refine wpT_take ?_
    repeat (first | go_big_quiet_step ((fail)) | quiet_step ((fail)))
    refine wpQuiet_nil ?_
    refine wpT_done ?_
    go_wp2_with fail
    with_reducible refine (give_ok HP8.out HPL.out HL3.out hq HPL4.out HL8.out HM.out HT7.out HPK.out.1 HPK.out.2.1 HPK.out.2.2).mono ?_
    intro e w8 ho
    have HO := hide (ho.after HB8.out)
    obtain ⟨he, _⟩ := ho
    subst he
    go_wp2_with fail
    go_ret
    exact HO.out
set_option maxHeartbeats 16000000 in
set_option maxRecDepth 100000 in
theorem makes0_bad (h : PlM D B w pp k s n ms ns Vn ts vs Vt Hs Vh) (P : Pl s n ms q Fs ns ts Hs) (L : Live w k s) (hq : q ≤ 60) (X : ActM B w xf xg xh xi A1 c1 l1 A2 c2 l2 A3 c3 l3) (hbad : xi < 0 ∨ (n : Int) ≤ xi) :
    Calls Tryz.prog 9 #[.pointer (some ⟨pp, 0, none⟩), .agg (actC 0 xf xg xh xi xb A1 l1.length c1 A2 l2.length c2 A3 l3.length c3)] w (MkOut D B pp n ms q w) := by
  have HBW := hide (Nat.le_trans h.lo (Nat.le_of_lt h.lt))
  have HBAD := hide hbad
  obtain ⟨jf, hjf⟩ : ∃ j : Int, ofP ns.length xf = j := ⟨_, rfl⟩
  have sf := of_sign (m := ns.length) (x := xf)
  rw [hjf] at sf
  have Hof := hide hjf
  have HW : (decide (jf < 0) = true ∧ decide (xi < 0) = true) ∨ (decide (jf < 0) = true ∧ decide (xi < 0) = false ∧ decide ((n : Int) ≤ xi) = true) ∨ (decide (jf < 0) = false ∧ decide (xi < 0) = true) ∨ (decide (jf < 0) = false ∧ decide (xi < 0) = false ∧ decide ((n : Int) ≤ xi) = true) := by
    have hb' := hbad
    rw [show (xi < 0) = (decide (xi < 0) = true) from propext decide_eq_true_iff.symm, show ((n : Int) ≤ xi) = (decide ((n : Int) ≤ xi) = true) from propext decide_eq_true_iff.symm] at hb'
    revert hb'
    generalize decide (jf < 0) = v0
    generalize decide (xi < 0) = v1
    generalize decide ((n : Int) ≤ xi) = v2
    clear HBAD hbad h P L hq X
    cases v0 <;> cases v1 <;> cases v2 <;> simp
  clear hbad sf hjf
  have hbx := bel_one w (.cells #[.int .u8 0, .int .i64 xf, .int .i64 xg, .int .i64 xh, .int .i64 xi, .bool xb, .slice A1 l1.length c1, .slice A2 l2.length c2, .slice A3 l3.length c3] 39)
  have HP1 := hide (h.below hbx)
  have hx0 := heap_new w (.cells #[.int .u8 0, .int .i64 xf, .int .i64 xg, .int .i64 xh, .int .i64 xi, .bool xb, .slice A1 l1.length c1, .slice A2 l2.length c2, .slice A3 l3.length c3] 39)
  have HX1 := hide hx0
  have HL1 := hide (L.below hbx)
  have HX2 := hide (X.below hbx)
  have HB1 := hide hbx
  have HN := hide (fun (v : Int) (hv : I64 v) (z : World) (hz : PlM D B z pp k s n ms ns Vn ts vs Vt Hs Vh) => of_any hz P.two (by have := P.sm; omega) v hv)
  have HPL := hide P
  have HI := hide (And.intro X.f (And.intro X.g (And.intro X.h X.i)))
  clear h X L hbx hx0 P
  go_enter Tryz.func9, Tryz.ntmps9
  go_upto_region 1 with fail
  generalize w.alloc (.cells #[.int .u8 0, .int .i64 xf, .int .i64 xg, .int .i64 xh, .int .i64 xi, .bool xb, .slice A1 l1.length c1, .slice A2 l2.length c2, .slice A3 l3.length c3] 39) = w1 at *
  have b1 := lat_cell (cell_heap (j := 1) HX1.out rfl)
  have b2 := lat_cell (cell_heap (j := 2) HX1.out rfl)
  have b3 := lat_cell (cell_heap (j := 3) HX1.out rfl)
  have HF := hide (fun z => HN.out xf HI.out.1 (lat w1 z) (HP1.out.below (lat_below w1 z)))
  have HG := hide (fun z => HN.out xg HI.out.2.1 (lat w1 z) (HP1.out.below (lat_below w1 z)))
  have HH := hide (fun z => HN.out xh HI.out.2.2.1 (lat w1 z) (HP1.out.below (lat_below w1 z)))
  rw [Hof.out] at HF
  generalize ofP ns.length xg = yg at *
  generalize ofP ns.length xh = yh at *
  rcases HW with ⟨e0, e1⟩ | ⟨e0, e1, e2⟩ | ⟨e0, e1⟩ | ⟨e0, e1, e2⟩
  all_goals (
    clear HN HI
    go_wp2_with fail
    refine wp_region_lat (by kernel_rfl) (by kernel_rfl) ?_
    repeat (first | go_big_quiet_step ((first | (go_at_call 12; with_reducible exact calls_lat_same (HF.out _)) | (go_at_call 12; with_reducible exact calls_lat_same (HG.out _)) | (go_at_call 12; with_reducible exact calls_lat_same (HH.out _)))) | quiet_step ((first | (go_at_call 12; with_reducible exact calls_lat_same (HF.out _)) | (go_at_call 12; with_reducible exact calls_lat_same (HG.out _)) | (go_at_call 12; with_reducible exact calls_lat_same (HH.out _)))))
    refine wpQuiet_nil ?_
    intro _ hlat
    obtain ⟨wq, rfl⟩ := hlat
    have HP2 := hide (HP1.out.below (lat_below w1 wq))
    have hx2 := heapB (lat_below w1 wq) HX1.out
    have HX12 := hide hx2
    have HL2 := hide (HL1.out.below (lat_below w1 wq))
    have HX3 := hide (HX2.out.below (lat_below w1 wq))
    have HB2 := hide (below_wide HB1.out (lat_below w1 wq))
    clear HP1 HX1 HL1 HX2 HB1 b1 b2 b3 HF HG HH
    generalize lat w1 wq = w2 at *
    have hd := cell_heap (j := 0) hx2 rfl
    have hdq := lat_cell hd
    have y4 := lat_cell (cell_heap (j := 4) hx2 rfl)
    have yn := lat_cell (HP2.out.cell (j := 1) rfl)
    clear hx2
    go_wp2_with fail
    simp only [List.append_eq, List.cons_append, List.nil_append]
    refine wp_region_lat (by kernel_rfl) (lex_of (by kernel_rfl) lex7) ?_
    repeat (first | go_big_quiet_step ((fail)) | quiet_step ((fail)))
    refine wpQuiet_nil ?_
    intro _ hlat
    obtain ⟨wp, rfl⟩ := hlat
    have HP3 := hide (HP2.out.below (lat_below w2 wp))
    have hx3 := heapB (lat_below w2 wp) HX12.out
    have HX13 := hide hx3
    have HL3 := hide (HL2.out.below (lat_below w2 wp))
    have HX4 := hide (HX3.out.below (lat_below w2 wp))
    have HB3 := hide (below_wide HB2.out (lat_below w2 wp))
    clear HP2 HX12 HL2 HX3 HB2 hd hdq y4 yn
    generalize lat w2 wp = w3 at *
    have z0 := cell_heap (j := 0) hx3 rfl
    have z1 := cell_heap (j := 1) hx3 rfl
    have z2 := cell_heap (j := 2) hx3 rfl
    have z3 := cell_heap (j := 3) hx3 rfl
    have z4 := cell_heap (j := 4) hx3 rfl
    have z5 := cell_heap (j := 5) hx3 rfl
    have z6 := cell_heap (j := 6) hx3 rfl
    have z7 := cell_heap (j := 7) hx3 rfl
    have z8 := cell_heap (j := 8) hx3 rfl
    clear hx3
    have HCALL := hide (call0_bad (xb := xb) HP3.out HPL.out HL3.out hq HX4.out HBAD.out)
    go_wp2_with fail
    refine HCALL.out.mono ?_
    rintro e w4 ⟨rfl, hb⟩
    have HP4 := hide (HP3.out.below hb)
    have HL4 := hide (HL3.out.below hb)
    have HB4 := hide ((below_wide HB3.out hb).mono HBW.out)
    clear hb HCALL z0 z1 z2 z3 z4 z5 z6 z7 z8
    go_wp2_with fail
    with_reducible refine (give_no HP4.out HPL.out HL4.out _).mono ?_
    intro e w5 ho
    have HO := hide (ho.after HB4.out)
    obtain ⟨he, _⟩ := ho
    subst he
    go_wp2_with fail
    go_ret
    exact HO.out)
end
end Go.Proofs.YtgfjdkkfgclhjaaGreat.Bd
/- makes, walked for acts of kind 1 (printed by gen_ey.py). -/
namespace Go.Proofs.YtgfjdkkfgclhjaaGreat.Bd
open Go.RowKit Go.Proofs.YtgfjdkkfgclhjaaGreat Go.Proofs.YtgfjdkkfgclhjaaGreat.Lx Go.Maps

section
variable {D : Nat → Array Value → TypeId → Prop} {B : Nat} {w w' : World} {pp : Nat} {k : Blk} {s : St} {n ms q : Nat} {ns : List Nat} {Vn : Value} {ts : List Tb} {vs : List Value} {Vt : Value} {Hs : List Tb} {Vh : Value} {Fs : List (Env → Bool)} {xf xg xh xi : Int} {xb : Bool} {A1 A2 A3 : Option Addr} {c1 c2 c3 : Nat} {l1 l2 : List Int} {l3 : List Bool}
set_option maxHeartbeats 16000000 in
set_option maxRecDepth 100000 in
theorem makes1_good (h : PlM D B w pp k s n ms ns Vn ts vs Vt Hs Vh) (P : Pl s n ms q Fs ns ts Hs) (L : Live w k s) (hq : q ≤ 60) (X : ActM B w xf xg xh xi A1 c1 l1 A2 c2 l2 A3 c3 l3) (m : Nat) (hm : m = 2 ^ n) (af jf : Nat) (F : Env → Bool) (ef : nodeP ns xf = (af : Int)) (of : ofP ns.length xf = (jf : Int)) (uf : jf < ts.length) (tf : ts[jf]? = some (tab n F)) (nf : Nod s af (lowV n) F) :
    Calls Tryz.prog 9 #[.pointer (some ⟨pp, 0, none⟩), .agg (actC 1 xf xg xh xi xb A1 l1.length c1 A2 l2.length c2 A3 l3.length c3)] w (MkOut D B pp n ms q w) := by
  have HM := hide hm
  have HBW := hide (Nat.le_trans h.lo (Nat.le_of_lt h.lt))
  have hn6 := P.n6
  clear hm
  have hbx := bel_one w (.cells #[.int .u8 1, .int .i64 xf, .int .i64 xg, .int .i64 xh, .int .i64 xi, .bool xb, .slice A1 l1.length c1, .slice A2 l2.length c2, .slice A3 l3.length c3] 39)
  have HP1 := hide (h.below hbx)
  have hx0 := heap_new w (.cells #[.int .u8 1, .int .i64 xf, .int .i64 xg, .int .i64 xh, .int .i64 xi, .bool xb, .slice A1 l1.length c1, .slice A2 l2.length c2, .slice A3 l3.length c3] 39)
  have HX1 := hide hx0
  have HL1 := hide (L.below hbx)
  have HX2 := hide (X.below hbx)
  have HB1 := hide hbx
  have HN := hide (fun (v : Int) (hv : I64 v) (z : World) (hz : PlM D B z pp k s n ms ns Vn ts vs Vt Hs Vh) => of_any hz P.two (by have := P.sm; omega) v hv)
  have HPL := hide P
  have HI := hide (And.intro X.f (And.intro X.g (And.intro X.h X.i)))
  clear h X L hbx hx0 P
  go_enter Tryz.func9, Tryz.ntmps9
  go_upto_region 1 with fail
  generalize w.alloc (.cells #[.int .u8 1, .int .i64 xf, .int .i64 xg, .int .i64 xh, .int .i64 xi, .bool xb, .slice A1 l1.length c1, .slice A2 l2.length c2, .slice A3 l3.length c3] 39) = w1 at *
  have b1 := lat_cell (cell_heap (j := 1) HX1.out rfl)
  have b2 := lat_cell (cell_heap (j := 2) HX1.out rfl)
  have b3 := lat_cell (cell_heap (j := 3) HX1.out rfl)
  have HF := hide (fun z => HN.out xf HI.out.1 (lat w1 z) (HP1.out.below (lat_below w1 z)))
  have HG := hide (fun z => HN.out xg HI.out.2.1 (lat w1 z) (HP1.out.below (lat_below w1 z)))
  have HH := hide (fun z => HN.out xh HI.out.2.2.1 (lat w1 z) (HP1.out.below (lat_below w1 z)))
  rw [of] at HF
  generalize ofP ns.length xg = yg at *
  generalize ofP ns.length xh = yh at *
  have df : decide ((jf : Int) < 0) = false := decide_eq_false (by omega)
  have Hof := hide of
  have Hef := hide ef
  clear of ef
  clear HN HI
  go_wp2_with fail
  refine wp_region_lat (by kernel_rfl) (by kernel_rfl) ?_
  repeat (first | go_big_quiet_step ((first | (go_at_call 12; with_reducible exact calls_lat_same (HF.out _)) | (go_at_call 12; with_reducible exact calls_lat_same (HG.out _)) | (go_at_call 12; with_reducible exact calls_lat_same (HH.out _)))) | quiet_step ((first | (go_at_call 12; with_reducible exact calls_lat_same (HF.out _)) | (go_at_call 12; with_reducible exact calls_lat_same (HG.out _)) | (go_at_call 12; with_reducible exact calls_lat_same (HH.out _)))))
  refine wpQuiet_nil ?_
  intro _ hlat
  obtain ⟨wq, rfl⟩ := hlat
  have HP2 := hide (HP1.out.below (lat_below w1 wq))
  have hx2 := heapB (lat_below w1 wq) HX1.out
  have HX12 := hide hx2
  have HL2 := hide (HL1.out.below (lat_below w1 wq))
  have HX3 := hide (HX2.out.below (lat_below w1 wq))
  have HB2 := hide (below_wide HB1.out (lat_below w1 wq))
  clear HP1 HX1 HL1 HX2 HB1 b1 b2 b3 HF HG HH
  generalize lat w1 wq = w2 at *
  have hd := cell_heap (j := 0) hx2 rfl
  have hdq := lat_cell hd
  clear hx2
  go_wp2_with fail
  simp only [List.append_eq, List.cons_append, List.nil_append]
  refine wp_region_lat (by kernel_rfl) (lex_of (by kernel_rfl) lex7) ?_
  repeat (first | go_big_quiet_step ((fail)) | quiet_step ((fail)))
  refine wpQuiet_nil ?_
  intro _ hlat
  obtain ⟨wp, rfl⟩ := hlat
  have HP3 := hide (HP2.out.below (lat_below w2 wp))
  have hx3 := heapB (lat_below w2 wp) HX12.out
  have HX13 := hide hx3
  have HL3 := hide (HL2.out.below (lat_below w2 wp))
  have HX4 := hide (HX3.out.below (lat_below w2 wp))
  have HB3 := hide (below_wide HB2.out (lat_below w2 wp))
  clear HP2 HX12 HL2 HX3 HB2 hd hdq
  generalize lat w2 wp = w3 at *
  have z0 := cell_heap (j := 0) hx3 rfl
  have z1 := cell_heap (j := 1) hx3 rfl
  have z2 := cell_heap (j := 2) hx3 rfl
  have z3 := cell_heap (j := 3) hx3 rfl
  have z4 := cell_heap (j := 4) hx3 rfl
  have z5 := cell_heap (j := 5) hx3 rfl
  have z6 := cell_heap (j := 6) hx3 rfl
  have z7 := cell_heap (j := 7) hx3 rfl
  have z8 := cell_heap (j := 8) hx3 rfl
  clear hx3
  have HCALL := hide (call1_good (xb := xb) HP3.out HPL.out HL3.out hq HX4.out  af F Hef.out nf)
  go_wp2_with fail
  refine HCALL.out.mono ?_
  intro e w4 ho
  have hans := HPL.out.answer HL3.out hq ho
  clear ho HCALL z0 z1 z2 z3 z4 z5 z6 z7 z8
  rcases hans with ⟨k4, s4, rfl, L4, T4, P4, hful⟩ | ⟨k4, s4, r, rfl, L4, T4, P4, hok, hr, hcmp⟩
  · have HPF := hide hful
    clear hful
    have HP4 := hide (HP3.out.turn T4 L4.ar)
    have HX14 := hide (T4.heap HX13.out (fp_type HP3.out.ar HX13.out (by decide) (by decide)))
    have HX5 := hide (HX4.out.turn HP3.out T4)
    have HB4 := hide (show Below B w w4 from (HB3.out.mono HBW.out).trans (T4.low HP3.out.fpl (Nat.le_trans HP3.out.lo (Nat.le_of_lt HP3.out.lt))))
    have HL4 := hide L4
    have HPL4 := hide P4
    clear L4 T4 P4 HP3 HX13 HX4 HB3
    have y1 := HP4.out.cell (j := 1) rfl
    go_wp2_with fail
    with_reducible refine (All_t HM.out hn6 false).mono ?_
    rintro e w5 ⟨gno, rfl, hno, hb⟩
    have HP5 := hide (HP4.out.below hb)
    have HX15 := hide (heapB hb HX14.out)
    have HX6 := hide (HX5.out.below hb)
    have HB5 := hide (HB4.out.trans (hb.mono (Nat.le_trans HP4.out.lo (Nat.le_of_lt HP4.out.lt))))
    have HL5 := hide (HL4.out.below hb)
    have HNO := hide hno
    clear hno hb y1 HP4 HX14 HX5 HB4 HL4
    have y1 := HP5.out.cell (j := 1) rfl
    go_wp2_with fail
    with_reducible refine (All_t HM.out hn6 true).mono ?_
    rintro e w6 ⟨gye, rfl, hye, hb⟩
    have HP6 := hide (HP5.out.below hb)
    have HX16 := hide (heapB hb HX15.out)
    have HX7 := hide (HX6.out.below hb)
    have HB6 := hide (HB5.out.trans (hb.mono (Nat.le_trans HP5.out.lo (Nat.le_of_lt HP5.out.lt))))
    have HL6 := hide (HL5.out.below hb)
    have HNO6 := hide (HNO.out.below hb)
    have HYE6 := hide hye
    clear hye hb y1 HP5 HX15 HX6 HB5 HL5 HNO
    have hd6 := cell_heap (j := 0) HX16.out rfl
    obtain ⟨ad, cV, gf, hVt, tcf, hrf⟩ := HP6.out.row HM.out tf
    subst hVt
    have ixf : ((jf : Nat) : Int) < (ts.length : Int) := by omega
    have y4 := HP6.out.cell (j := 4) rfl
    have HNO7 := HNO6
    have HYE7 := HYE6
    have Rf := hide hrf
    clear hrf
    go_wp2_with fail
    with_reducible refine (Ite_t HM.out hn6 Rf.out HNO7.out HYE7.out).mono ?_
    rintro e w7 ⟨gt, rfl, ht, hb⟩
    have HT7 := hide ht
    have HP8 := hide (HP6.out.below hb)
    have HL8 := hide (HL6.out.below hb)
    have HB8 := hide (HB6.out.trans (hb.mono (Nat.le_trans HP6.out.lo (Nat.le_of_lt HP6.out.lt))))
    clear ht hb y4 hd6 tcf
    go_wp2_with fail
    with_reducible refine (give_full HP8.out HPL4.out HL8.out HM.out HT7.out HPF.out).mono ?_
    intro e w8 ho
    have HO := hide (ho.after HB8.out)
    obtain ⟨he, _⟩ := ho
    subst he
    go_wp2_with fail
    go_ret
    exact HO.out
  · have HPK := hide (And.intro hok (And.intro hr hcmp))
    clear hok hr hcmp
    have HP4 := hide (HP3.out.turn T4 L4.ar)
    have HX14 := hide (T4.heap HX13.out (fp_type HP3.out.ar HX13.out (by decide) (by decide)))
    have HX5 := hide (HX4.out.turn HP3.out T4)
    have HB4 := hide (show Below B w w4 from (HB3.out.mono HBW.out).trans (T4.low HP3.out.fpl (Nat.le_trans HP3.out.lo (Nat.le_of_lt HP3.out.lt))))
    have HL4 := hide L4
    have HPL4 := hide P4
    clear L4 T4 P4 HP3 HX13 HX4 HB3
    have y1 := HP4.out.cell (j := 1) rfl
    go_wp2_with fail
    with_reducible refine (All_t HM.out hn6 false).mono ?_
    rintro e w5 ⟨gno, rfl, hno, hb⟩
    have HP5 := hide (HP4.out.below hb)
    have HX15 := hide (heapB hb HX14.out)
    have HX6 := hide (HX5.out.below hb)
    have HB5 := hide (HB4.out.trans (hb.mono (Nat.le_trans HP4.out.lo (Nat.le_of_lt HP4.out.lt))))
    have HL5 := hide (HL4.out.below hb)
    have HNO := hide hno
    clear hno hb y1 HP4 HX14 HX5 HB4 HL4
    have y1 := HP5.out.cell (j := 1) rfl
    go_wp2_with fail
    with_reducible refine (All_t HM.out hn6 true).mono ?_
    rintro e w6 ⟨gye, rfl, hye, hb⟩
    have HP6 := hide (HP5.out.below hb)
    have HX16 := hide (heapB hb HX15.out)
    have HX7 := hide (HX6.out.below hb)
    have HB6 := hide (HB5.out.trans (hb.mono (Nat.le_trans HP5.out.lo (Nat.le_of_lt HP5.out.lt))))
    have HL6 := hide (HL5.out.below hb)
    have HNO6 := hide (HNO.out.below hb)
    have HYE6 := hide hye
    clear hye hb y1 HP5 HX15 HX6 HB5 HL5 HNO
    have hd6 := cell_heap (j := 0) HX16.out rfl
    obtain ⟨ad, cV, gf, hVt, tcf, hrf⟩ := HP6.out.row HM.out tf
    subst hVt
    have ixf : ((jf : Nat) : Int) < (ts.length : Int) := by omega
    have y4 := HP6.out.cell (j := 4) rfl
    have HNO7 := HNO6
    have HYE7 := HYE6
    have Rf := hide hrf
    clear hrf
    go_wp2_with fail
    with_reducible refine (Ite_t HM.out hn6 Rf.out HNO7.out HYE7.out).mono ?_
    rintro e w7 ⟨gt, rfl, ht, hb⟩
    have HT7 := hide ht
    have HP8 := hide (HP6.out.below hb)
    have HL8 := hide (HL6.out.below hb)
    have HB8 := hide (HB6.out.trans (hb.mono (Nat.le_trans HP6.out.lo (Nat.le_of_lt HP6.out.lt))))
    clear ht hb y4 hd6 tcf
    go_wp2_with fail
    with_reducible refine (give_ok HP8.out HPL.out HL3.out hq HPL4.out HL8.out HM.out HT7.out HPK.out.1 HPK.out.2.1 HPK.out.2.2).mono ?_
    intro e w8 ho
    have HO := hide (ho.after HB8.out)
    obtain ⟨he, _⟩ := ho
    subst he
    go_wp2_with fail
    go_ret
    exact HO.out
set_option maxHeartbeats 16000000 in
set_option maxRecDepth 100000 in
theorem makes1_bad (h : PlM D B w pp k s n ms ns Vn ts vs Vt Hs Vh) (P : Pl s n ms q Fs ns ts Hs) (L : Live w k s) (hq : q ≤ 60) (X : ActM B w xf xg xh xi A1 c1 l1 A2 c2 l2 A3 c3 l3) (hbad : xf < 0) :
    Calls Tryz.prog 9 #[.pointer (some ⟨pp, 0, none⟩), .agg (actC 1 xf xg xh xi xb A1 l1.length c1 A2 l2.length c2 A3 l3.length c3)] w (MkOut D B pp n ms q w) := by
  have HBW := hide (Nat.le_trans h.lo (Nat.le_of_lt h.lt))
  have HBAD := hide hbad
  obtain ⟨jf, hjf⟩ : ∃ j : Int, ofP ns.length xf = j := ⟨_, rfl⟩
  have sf := of_sign (m := ns.length) (x := xf)
  rw [hjf] at sf
  have Hof := hide hjf
  have HW : (decide (jf < 0) = true) := by
    have hb' := hbad
    rw [show (xf < 0) = (decide (jf < 0) = true) from propext (sf.symm.trans decide_eq_true_iff.symm)] at hb'
    revert hb'
    generalize decide (jf < 0) = v0
    clear HBAD hbad h P L hq X
    cases v0 <;> simp
  clear hbad sf hjf
  have hbx := bel_one w (.cells #[.int .u8 1, .int .i64 xf, .int .i64 xg, .int .i64 xh, .int .i64 xi, .bool xb, .slice A1 l1.length c1, .slice A2 l2.length c2, .slice A3 l3.length c3] 39)
  have HP1 := hide (h.below hbx)
  have hx0 := heap_new w (.cells #[.int .u8 1, .int .i64 xf, .int .i64 xg, .int .i64 xh, .int .i64 xi, .bool xb, .slice A1 l1.length c1, .slice A2 l2.length c2, .slice A3 l3.length c3] 39)
  have HX1 := hide hx0
  have HL1 := hide (L.below hbx)
  have HX2 := hide (X.below hbx)
  have HB1 := hide hbx
  have HN := hide (fun (v : Int) (hv : I64 v) (z : World) (hz : PlM D B z pp k s n ms ns Vn ts vs Vt Hs Vh) => of_any hz P.two (by have := P.sm; omega) v hv)
  have HPL := hide P
  have HI := hide (And.intro X.f (And.intro X.g (And.intro X.h X.i)))
  clear h X L hbx hx0 P
  go_enter Tryz.func9, Tryz.ntmps9
  go_upto_region 1 with fail
  generalize w.alloc (.cells #[.int .u8 1, .int .i64 xf, .int .i64 xg, .int .i64 xh, .int .i64 xi, .bool xb, .slice A1 l1.length c1, .slice A2 l2.length c2, .slice A3 l3.length c3] 39) = w1 at *
  have b1 := lat_cell (cell_heap (j := 1) HX1.out rfl)
  have b2 := lat_cell (cell_heap (j := 2) HX1.out rfl)
  have b3 := lat_cell (cell_heap (j := 3) HX1.out rfl)
  have HF := hide (fun z => HN.out xf HI.out.1 (lat w1 z) (HP1.out.below (lat_below w1 z)))
  have HG := hide (fun z => HN.out xg HI.out.2.1 (lat w1 z) (HP1.out.below (lat_below w1 z)))
  have HH := hide (fun z => HN.out xh HI.out.2.2.1 (lat w1 z) (HP1.out.below (lat_below w1 z)))
  rw [Hof.out] at HF
  generalize ofP ns.length xg = yg at *
  generalize ofP ns.length xh = yh at *
  rcases HW with e0
  all_goals (
    clear HN HI
    go_wp2_with fail
    refine wp_region_lat (by kernel_rfl) (by kernel_rfl) ?_
    repeat (first | go_big_quiet_step ((first | (go_at_call 12; with_reducible exact calls_lat_same (HF.out _)) | (go_at_call 12; with_reducible exact calls_lat_same (HG.out _)) | (go_at_call 12; with_reducible exact calls_lat_same (HH.out _)))) | quiet_step ((first | (go_at_call 12; with_reducible exact calls_lat_same (HF.out _)) | (go_at_call 12; with_reducible exact calls_lat_same (HG.out _)) | (go_at_call 12; with_reducible exact calls_lat_same (HH.out _)))))
    refine wpQuiet_nil ?_
    intro _ hlat
    obtain ⟨wq, rfl⟩ := hlat
    have HP2 := hide (HP1.out.below (lat_below w1 wq))
    have hx2 := heapB (lat_below w1 wq) HX1.out
    have HX12 := hide hx2
    have HL2 := hide (HL1.out.below (lat_below w1 wq))
    have HX3 := hide (HX2.out.below (lat_below w1 wq))
    have HB2 := hide (below_wide HB1.out (lat_below w1 wq))
    clear HP1 HX1 HL1 HX2 HB1 b1 b2 b3 HF HG HH
    generalize lat w1 wq = w2 at *
    have hd := cell_heap (j := 0) hx2 rfl
    have hdq := lat_cell hd
    clear hx2
    go_wp2_with fail
    simp only [List.append_eq, List.cons_append, List.nil_append]
    refine wp_region_lat (by kernel_rfl) (lex_of (by kernel_rfl) lex7) ?_
    repeat (first | go_big_quiet_step ((fail)) | quiet_step ((fail)))
    refine wpQuiet_nil ?_
    intro _ hlat
    obtain ⟨wp, rfl⟩ := hlat
    have HP3 := hide (HP2.out.below (lat_below w2 wp))
    have hx3 := heapB (lat_below w2 wp) HX12.out
    have HX13 := hide hx3
    have HL3 := hide (HL2.out.below (lat_below w2 wp))
    have HX4 := hide (HX3.out.below (lat_below w2 wp))
    have HB3 := hide (below_wide HB2.out (lat_below w2 wp))
    clear HP2 HX12 HL2 HX3 HB2 hd hdq
    generalize lat w2 wp = w3 at *
    have z0 := cell_heap (j := 0) hx3 rfl
    have z1 := cell_heap (j := 1) hx3 rfl
    have z2 := cell_heap (j := 2) hx3 rfl
    have z3 := cell_heap (j := 3) hx3 rfl
    have z4 := cell_heap (j := 4) hx3 rfl
    have z5 := cell_heap (j := 5) hx3 rfl
    have z6 := cell_heap (j := 6) hx3 rfl
    have z7 := cell_heap (j := 7) hx3 rfl
    have z8 := cell_heap (j := 8) hx3 rfl
    clear hx3
    have HCALL := hide (call1_bad (xb := xb) HP3.out HPL.out HL3.out hq HX4.out HBAD.out)
    go_wp2_with fail
    refine HCALL.out.mono ?_
    rintro e w4 ⟨rfl, hb⟩
    have HP4 := hide (HP3.out.below hb)
    have HL4 := hide (HL3.out.below hb)
    have HB4 := hide ((below_wide HB3.out hb).mono HBW.out)
    clear hb HCALL z0 z1 z2 z3 z4 z5 z6 z7 z8
    go_wp2_with fail
    with_reducible refine (give_no HP4.out HPL.out HL4.out _).mono ?_
    intro e w5 ho
    have HO := hide (ho.after HB4.out)
    obtain ⟨he, _⟩ := ho
    subst he
    go_wp2_with fail
    go_ret
    exact HO.out)
end
end Go.Proofs.YtgfjdkkfgclhjaaGreat.Bd
/- makes, walked for acts of kind 2 (printed by gen_ey.py). -/
namespace Go.Proofs.YtgfjdkkfgclhjaaGreat.Bd
open Go.RowKit Go.Proofs.YtgfjdkkfgclhjaaGreat Go.Proofs.YtgfjdkkfgclhjaaGreat.Lx Go.Maps

section
variable {D : Nat → Array Value → TypeId → Prop} {B : Nat} {w w' : World} {pp : Nat} {k : Blk} {s : St} {n ms q : Nat} {ns : List Nat} {Vn : Value} {ts : List Tb} {vs : List Value} {Vt : Value} {Hs : List Tb} {Vh : Value} {Fs : List (Env → Bool)} {xf xg xh xi : Int} {xb : Bool} {A1 A2 A3 : Option Addr} {c1 c2 c3 : Nat} {l1 l2 : List Int} {l3 : List Bool}
set_option maxHeartbeats 16000000 in
set_option maxRecDepth 100000 in
theorem makes2_good (h : PlM D B w pp k s n ms ns Vn ts vs Vt Hs Vh) (P : Pl s n ms q Fs ns ts Hs) (L : Live w k s) (hq : q ≤ 60) (X : ActM B w xf xg xh xi A1 c1 l1 A2 c2 l2 A3 c3 l3) (m : Nat) (hm : m = 2 ^ n) (af jf : Nat) (F : Env → Bool) (ef : nodeP ns xf = (af : Int)) (of : ofP ns.length xf = (jf : Int)) (uf : jf < ts.length) (tf : ts[jf]? = some (tab n F)) (nf : Nod s af (lowV n) F) (ag jg : Nat) (G : Env → Bool) (eg : nodeP ns xg = (ag : Int)) (og : ofP ns.length xg = (jg : Int)) (ug : jg < ts.length) (tg : ts[jg]? = some (tab n G)) (ng : Nod s ag (lowV n) G) :
    Calls Tryz.prog 9 #[.pointer (some ⟨pp, 0, none⟩), .agg (actC 2 xf xg xh xi xb A1 l1.length c1 A2 l2.length c2 A3 l3.length c3)] w (MkOut D B pp n ms q w) := by
  have HM := hide hm
  have HBW := hide (Nat.le_trans h.lo (Nat.le_of_lt h.lt))
  have hn6 := P.n6
  clear hm
  have hbx := bel_one w (.cells #[.int .u8 2, .int .i64 xf, .int .i64 xg, .int .i64 xh, .int .i64 xi, .bool xb, .slice A1 l1.length c1, .slice A2 l2.length c2, .slice A3 l3.length c3] 39)
  have HP1 := hide (h.below hbx)
  have hx0 := heap_new w (.cells #[.int .u8 2, .int .i64 xf, .int .i64 xg, .int .i64 xh, .int .i64 xi, .bool xb, .slice A1 l1.length c1, .slice A2 l2.length c2, .slice A3 l3.length c3] 39)
  have HX1 := hide hx0
  have HL1 := hide (L.below hbx)
  have HX2 := hide (X.below hbx)
  have HB1 := hide hbx
  have HN := hide (fun (v : Int) (hv : I64 v) (z : World) (hz : PlM D B z pp k s n ms ns Vn ts vs Vt Hs Vh) => of_any hz P.two (by have := P.sm; omega) v hv)
  have HPL := hide P
  have HI := hide (And.intro X.f (And.intro X.g (And.intro X.h X.i)))
  clear h X L hbx hx0 P
  go_enter Tryz.func9, Tryz.ntmps9
  go_upto_region 1 with fail
  generalize w.alloc (.cells #[.int .u8 2, .int .i64 xf, .int .i64 xg, .int .i64 xh, .int .i64 xi, .bool xb, .slice A1 l1.length c1, .slice A2 l2.length c2, .slice A3 l3.length c3] 39) = w1 at *
  have b1 := lat_cell (cell_heap (j := 1) HX1.out rfl)
  have b2 := lat_cell (cell_heap (j := 2) HX1.out rfl)
  have b3 := lat_cell (cell_heap (j := 3) HX1.out rfl)
  have HF := hide (fun z => HN.out xf HI.out.1 (lat w1 z) (HP1.out.below (lat_below w1 z)))
  have HG := hide (fun z => HN.out xg HI.out.2.1 (lat w1 z) (HP1.out.below (lat_below w1 z)))
  have HH := hide (fun z => HN.out xh HI.out.2.2.1 (lat w1 z) (HP1.out.below (lat_below w1 z)))
  rw [of] at HF
  rw [og] at HG
  generalize ofP ns.length xh = yh at *
  have df : decide ((jf : Int) < 0) = false := decide_eq_false (by omega)
  have dg : decide ((jg : Int) < 0) = false := decide_eq_false (by omega)
  have Hof := hide of
  have Hef := hide ef
  clear of ef
  have Hog := hide og
  have Heg := hide eg
  clear og eg
  clear HN HI
  go_wp2_with fail
  refine wp_region_lat (by kernel_rfl) (by kernel_rfl) ?_
  repeat (first | go_big_quiet_step ((first | (go_at_call 12; with_reducible exact calls_lat_same (HF.out _)) | (go_at_call 12; with_reducible exact calls_lat_same (HG.out _)) | (go_at_call 12; with_reducible exact calls_lat_same (HH.out _)))) | quiet_step ((first | (go_at_call 12; with_reducible exact calls_lat_same (HF.out _)) | (go_at_call 12; with_reducible exact calls_lat_same (HG.out _)) | (go_at_call 12; with_reducible exact calls_lat_same (HH.out _)))))
  refine wpQuiet_nil ?_
  intro _ hlat
  obtain ⟨wq, rfl⟩ := hlat
  have HP2 := hide (HP1.out.below (lat_below w1 wq))
  have hx2 := heapB (lat_below w1 wq) HX1.out
  have HX12 := hide hx2
  have HL2 := hide (HL1.out.below (lat_below w1 wq))
  have HX3 := hide (HX2.out.below (lat_below w1 wq))
  have HB2 := hide (below_wide HB1.out (lat_below w1 wq))
  clear HP1 HX1 HL1 HX2 HB1 b1 b2 b3 HF HG HH
  generalize lat w1 wq = w2 at *
  have hd := cell_heap (j := 0) hx2 rfl
  have hdq := lat_cell hd
  clear hx2
  go_wp2_with fail
  simp only [List.append_eq, List.cons_append, List.nil_append]
  refine wp_region_lat (by kernel_rfl) (lex_of (by kernel_rfl) lex7) ?_
  repeat (first | go_big_quiet_step ((fail)) | quiet_step ((fail)))
  refine wpQuiet_nil ?_
  intro _ hlat
  obtain ⟨wp, rfl⟩ := hlat
  have HP3 := hide (HP2.out.below (lat_below w2 wp))
  have hx3 := heapB (lat_below w2 wp) HX12.out
  have HX13 := hide hx3
  have HL3 := hide (HL2.out.below (lat_below w2 wp))
  have HX4 := hide (HX3.out.below (lat_below w2 wp))
  have HB3 := hide (below_wide HB2.out (lat_below w2 wp))
  clear HP2 HX12 HL2 HX3 HB2 hd hdq
  generalize lat w2 wp = w3 at *
  have z0 := cell_heap (j := 0) hx3 rfl
  have z1 := cell_heap (j := 1) hx3 rfl
  have z2 := cell_heap (j := 2) hx3 rfl
  have z3 := cell_heap (j := 3) hx3 rfl
  have z4 := cell_heap (j := 4) hx3 rfl
  have z5 := cell_heap (j := 5) hx3 rfl
  have z6 := cell_heap (j := 6) hx3 rfl
  have z7 := cell_heap (j := 7) hx3 rfl
  have z8 := cell_heap (j := 8) hx3 rfl
  clear hx3
  have HCALL := hide (call2_good (xb := xb) HP3.out HPL.out HL3.out hq HX4.out  af F Hef.out nf ag G Heg.out ng)
  go_wp2_with fail
  refine HCALL.out.mono ?_
  intro e w4 ho
  have hans := HPL.out.answer HL3.out hq ho
  clear ho HCALL z0 z1 z2 z3 z4 z5 z6 z7 z8
  rcases hans with ⟨k4, s4, rfl, L4, T4, P4, hful⟩ | ⟨k4, s4, r, rfl, L4, T4, P4, hok, hr, hcmp⟩
  · have HPF := hide hful
    clear hful
    have HP4 := hide (HP3.out.turn T4 L4.ar)
    have HX14 := hide (T4.heap HX13.out (fp_type HP3.out.ar HX13.out (by decide) (by decide)))
    have HX5 := hide (HX4.out.turn HP3.out T4)
    have HB4 := hide (show Below B w w4 from (HB3.out.mono HBW.out).trans (T4.low HP3.out.fpl (Nat.le_trans HP3.out.lo (Nat.le_of_lt HP3.out.lt))))
    have HL4 := hide L4
    have HPL4 := hide P4
    clear L4 T4 P4 HP3 HX13 HX4 HB3
    have y1 := HP4.out.cell (j := 1) rfl
    go_wp2_with fail
    with_reducible refine (All_t HM.out hn6 false).mono ?_
    rintro e w5 ⟨gno, rfl, hno, hb⟩
    have HP5 := hide (HP4.out.below hb)
    have HX15 := hide (heapB hb HX14.out)
    have HX6 := hide (HX5.out.below hb)
    have HB5 := hide (HB4.out.trans (hb.mono (Nat.le_trans HP4.out.lo (Nat.le_of_lt HP4.out.lt))))
    have HL5 := hide (HL4.out.below hb)
    have HNO := hide hno
    clear hno hb y1 HP4 HX14 HX5 HB4 HL4
    have y1 := HP5.out.cell (j := 1) rfl
    go_wp2_with fail
    with_reducible refine (All_t HM.out hn6 true).mono ?_
    rintro e w6 ⟨gye, rfl, hye, hb⟩
    have HP6 := hide (HP5.out.below hb)
    have HX16 := hide (heapB hb HX15.out)
    have HX7 := hide (HX6.out.below hb)
    have HB6 := hide (HB5.out.trans (hb.mono (Nat.le_trans HP5.out.lo (Nat.le_of_lt HP5.out.lt))))
    have HL6 := hide (HL5.out.below hb)
    have HNO6 := hide (HNO.out.below hb)
    have HYE6 := hide hye
    clear hye hb y1 HP5 HX15 HX6 HB5 HL5 HNO
    have hd6 := cell_heap (j := 0) HX16.out rfl
    have HSX := hide (show Below w6.heap.size w6 w6.drew from (Below.refl _ _).drew)
    obtain ⟨ad, cV, gf, hVt, tcf, hrf⟩ := HP6.out.row HM.out tf
    subst hVt
    have ixf : ((jf : Nat) : Int) < (ts.length : Int) := by omega
    obtain ⟨adg, cVg, gg, hVt, tcg, hrg⟩ := HP6.out.row HM.out tg
    cases hVt
    have ixg : ((jg : Nat) : Int) < (ts.length : Int) := by omega
    have y4 := HP6.out.cell (j := 4) rfl
    have HP7 := hide (HP6.out.below HSX.out)
    have HX8 := hide (HX7.out.below HSX.out)
    have HB7 := hide (HB6.out.trans (HSX.out.mono (Nat.le_trans HP6.out.lo (Nat.le_of_lt HP6.out.lt))))
    have HL7 := hide (HL6.out.below HSX.out)
    have HNO7 := hide (HNO6.out.below HSX.out)
    have HYE7 := hide (HYE6.out.below HSX.out)
    have Rf := hide (hrf.below HSX.out)
    have tqf := fun z => cellB (pin_in (S := Below w6.heap.size w6) HSX.out z) tcf
    have Rg := hide (hrg.below HSX.out)
    have tqg := fun z => cellB (pin_in (S := Below w6.heap.size w6) HSX.out z) tcg
    have q4 := fun z => cellB (pin_in (S := Below w6.heap.size w6) HSX.out z) y4
    clear hrf tcf hrg tcg y4 HP6 HX7 HB6 HL6 HNO6 HYE6
    go_wp2_with fail
    refine wp_region_tree ((Below w6.heap.size w6)) (fun k => ([] : List Nat).contains k) (.take [0, 1, 2, 3, 4, 5, 6, 7, 8, 9, 10, 11, 12, 13, 14] (.step 15 (.take [16] .done))) (by kernel_rfl) (by kernel_rfl) (by kernel_rfl) (by kernel_rfl) (.take (.cons (.zero) (.cons (.succ (.zero)) (.cons (.succ (.succ (.zero))) (.cons (.succ (.succ (.succ (.zero)))) (.cons (.succ (.succ (.succ (.succ (.zero))))) (.cons (.succ (.succ (.succ (.succ (.succ (.zero)))))) (.cons (.succ (.succ (.succ (.succ (.succ (.succ (.zero))))))) (.cons (.succ (.succ (.succ (.succ (.succ (.succ (.succ (.zero)))))))) (.cons (.succ (.succ (.succ (.succ (.succ (.succ (.succ (.succ (.zero))))))))) (.cons (.succ (.succ (.succ (.succ (.succ (.succ (.succ (.succ (.succ (.zero)))))))))) (.cons (.succ (.succ (.succ (.succ (.succ (.succ (.succ (.succ (.succ (.succ (.zero))))))))))) (.cons (.succ (.succ (.succ (.succ (.succ (.succ (.succ (.succ (.succ (.succ (.succ (.zero)))))))))))) (.cons (.succ (.succ (.succ (.succ (.succ (.succ (.succ (.succ (.succ (.succ (.succ (.succ (.zero))))))))))))) (.cons (.succ (.succ (.succ (.succ (.succ (.succ (.succ (.succ (.succ (.succ (.succ (.succ (.succ (.zero)))))))))))))) (.cons (.succ (.succ (.succ (.succ (.succ (.succ (.succ (.succ (.succ (.succ (.succ (.succ (.succ (.succ (.zero))))))))))))))) .nil))))))))))))))) (.step (.succ (.succ (.succ (.succ (.succ (.succ (.succ (.succ (.succ (.succ (.succ (.succ (.succ (.succ (.succ (.zero)))))))))))))))) rfl (.take (.cons (.succ (.succ (.succ (.succ (.succ (.succ (.succ (.succ (.succ (.succ (.succ (.succ (.succ (.succ (.succ (.succ (.zero))))))))))))))))) .nil) .done))) ?hQ ?hS ?_
    case hQ => exact fun _ _ _ _ _ h => h
    case hS => exact HSX.out
    refine wpT_take ?_
    repeat (first | go_big_quiet_step ((fail)) | quiet_step ((fail)))
    refine wpQuiet_nil ?_
    clear tqf tqg q4 hd6
    generalize w6.drew = x6 at *
    refine wpT_step rfl ?_
    intro K1 hK1
    go_wp2_with fail
    with_reducible refine (Ite_t HM.out hn6 Rf.out Rg.out HNO7.out).mono ?_
    rintro e w7 ⟨gt, rfl, ht, hb⟩
    have HSZ := hide (HSX.out.trans (hb.mono HSX.out.size))
    have HT7 := hide ht
    have HP8 := hide (HP7.out.below hb)
    have HL8 := hide (HL7.out.below hb)
    have HB8 := hide (HB7.out.trans (hb.mono (Nat.le_trans HP7.out.lo (Nat.le_of_lt HP7.out.lt))))
    clear ht hb
    refine hK1.out _ _ (fun _ => pin_mem HSZ.out) ?_
    clear hK1
    refine wpT_take ?_
    repeat (first | go_big_quiet_step ((fail)) | quiet_step ((fail)))
    refine wpQuiet_nil ?_
    refine wpT_done ?_
    go_wp2_with fail
    with_reducible refine (give_full HP8.out HPL4.out HL8.out HM.out HT7.out HPF.out).mono ?_
    intro e w8 ho
    have HO := hide (ho.after HB8.out)
    obtain ⟨he, _⟩ := ho
    subst he
    go_wp2_with fail
    go_ret
    exact HO.out
  · have HPK := hide (And.intro hok (And.intro hr hcmp))
    clear hok hr hcmp
    have HP4 := hide (HP3.out.turn T4 L4.ar)
    have HX14 := hide (T4.heap HX13.out (fp_type HP3.out.ar HX13.out (by decide) (by decide)))
    have HX5 := hide (HX4.out.turn HP3.out T4)
    have HB4 := hide (show Below B w w4 from (HB3.out.mono HBW.out).trans (T4.low HP3.out.fpl (Nat.le_trans HP3.out.lo (Nat.le_of_lt HP3.out.lt))))
    have HL4 := hide L4
    have HPL4 := hide P4
    clear L4 T4 P4 HP3 HX13 HX4 HB3
    have y1 := HP4.out.cell (j := 1) rfl
    go_wp2_with fail
    with_reducible refine (All_t HM.out hn6 false).mono ?_
    rintro e w5 ⟨gno, rfl, hno, hb⟩
    have HP5 := hide (HP4.out.below hb)
    have HX15 := hide (heapB hb HX14.out)
    have HX6 := hide (HX5.out.below hb)
    have HB5 := hide (HB4.out.trans (hb.mono (Nat.le_trans HP4.out.lo (Nat.le_of_lt HP4.out.lt))))
    have HL5 := hide (HL4.out.below hb)
    have HNO := hide hno
    clear hno hb y1 HP4 HX14 HX5 HB4 HL4
    have y1 := HP5.out.cell (j := 1) rfl
    go_wp2_with fail
    with_reducible refine (All_t HM.out hn6 true).mono ?_
    rintro e w6 ⟨gye, rfl, hye, hb⟩
    have HP6 := hide (HP5.out.below hb)
    have HX16 := hide (heapB hb HX15.out)
    have HX7 := hide (HX6.out.below hb)
    have HB6 := hide (HB5.out.trans (hb.mono (Nat.le_trans HP5.out.lo (Nat.le_of_lt HP5.out.lt))))
    have HL6 := hide (HL5.out.below hb)
    have HNO6 := hide (HNO.out.below hb)
    have HYE6 := hide hye
    clear hye hb y1 HP5 HX15 HX6 HB5 HL5 HNO
    have hd6 := cell_heap (j := 0) HX16.out rfl
    have HSX := hide (show Below w6.heap.size w6 w6.drew from (Below.refl _ _).drew)
    obtain ⟨ad, cV, gf, hVt, tcf, hrf⟩ := HP6.out.row HM.out tf
    subst hVt
    have ixf : ((jf : Nat) : Int) < (ts.length : Int) := by omega
    obtain ⟨adg, cVg, gg, hVt, tcg, hrg⟩ := HP6.out.row HM.out tg
    cases hVt
    have ixg : ((jg : Nat) : Int) < (ts.length : Int) := by omega
    have y4 := HP6.out.cell (j := 4) rfl
    have HP7 := hide (HP6.out.below HSX.out)
    have HX8 := hide (HX7.out.below HSX.out)
    have HB7 := hide (HB6.out.trans (HSX.out.mono (Nat.le_trans HP6.out.lo (Nat.le_of_lt HP6.out.lt))))
    have HL7 := hide (HL6.out.below HSX.out)
    have HNO7 := hide (HNO6.out.below HSX.out)
    have HYE7 := hide (HYE6.out.below HSX.out)
    have Rf := hide (hrf.below HSX.out)
    have tqf := fun z => cellB (pin_in (S := Below w6.heap.size w6) HSX.out z) tcf
    have Rg := hide (hrg.below HSX.out)
    have tqg := fun z => cellB (pin_in (S := Below w6.heap.size w6) HSX.out z) tcg
    have q4 := fun z => cellB (pin_in (S := Below w6.heap.size w6) HSX.out z) y4
    clear hrf tcf hrg tcg y4 HP6 HX7 HB6 HL6 HNO6 HYE6
    go_wp2_with fail
    refine wp_region_tree ((Below w6.heap.size w6)) (fun k => ([] : List Nat).contains k) (.take [0, 1, 2, 3, 4, 5, 6, 7, 8, 9, 10, 11, 12, 13, 14] (.step 15 (.take [16] .done))) (by kernel_rfl) (by kernel_rfl) (by kernel_rfl) (by kernel_rfl) (.take (.cons (.zero) (.cons (.succ (.zero)) (.cons (.succ (.succ (.zero))) (.cons (.succ (.succ (.succ (.zero)))) (.cons (.succ (.succ (.succ (.succ (.zero))))) (.cons (.succ (.succ (.succ (.succ (.succ (.zero)))))) (.cons (.succ (.succ (.succ (.succ (.succ (.succ (.zero))))))) (.cons (.succ (.succ (.succ (.succ (.succ (.succ (.succ (.zero)))))))) (.cons (.succ (.succ (.succ (.succ (.succ (.succ (.succ (.succ (.zero))))))))) (.cons (.succ (.succ (.succ (.succ (.succ (.succ (.succ (.succ (.succ (.zero)))))))))) (.cons (.succ (.succ (.succ (.succ (.succ (.succ (.succ (.succ (.succ (.succ (.zero))))))))))) (.cons (.succ (.succ (.succ (.succ (.succ (.succ (.succ (.succ (.succ (.succ (.succ (.zero)))))))))))) (.cons (.succ (.succ (.succ (.succ (.succ (.succ (.succ (.succ (.succ (.succ (.succ (.succ (.zero))))))))))))) (.cons (.succ (.succ (.succ (.succ (.succ (.succ (.succ (.succ (.succ (.succ (.succ (.succ (.succ (.zero)))))))))))))) (.cons (.succ (.succ (.succ (.succ (.succ (.succ (.succ (.succ (.succ (.succ (.succ (.succ (.succ (.succ (.zero))))))))))))))) .nil))))))))))))))) (.step (.succ (.succ (.succ (.succ (.succ (.succ (.succ (.succ (.succ (.succ (.succ (.succ (.succ (.succ (.succ (.zero)))))))))))))))) rfl (.take (.cons (.succ (.succ (.succ (.succ (.succ (.succ (.succ (.succ (.succ (.succ (.succ (.succ (.succ (.succ (.succ (.succ (.zero))))))))))))))))) .nil) .done))) ?hQ ?hS ?_
    case hQ => exact fun _ _ _ _ _ h => h
    case hS => exact HSX.out
    refine wpT_take ?_
    repeat (first | go_big_quiet_step ((fail)) | quiet_step ((fail)))
    refine wpQuiet_nil ?_
    clear tqf tqg q4 hd6
    generalize w6.drew = x6 at *
    refine wpT_step rfl ?_
    intro K1 hK1
    go_wp2_with fail
    with_reducible refine (Ite_t HM.out hn6 Rf.out Rg.out HNO7.out).mono ?_
    rintro e w7 ⟨gt, rfl, ht, hb⟩
    have HSZ := hide (HSX.out.trans (hb.mono HSX.out.size))
    have HT7 := hide ht
    have HP8 := hide (HP7.out.below hb)
    have HL8 := hide (HL7.out.below hb)
    have HB8 := hide (HB7.out.trans (hb.mono (Nat.le_trans HP7.out.lo (Nat.le_of_lt HP7.out.lt))))
    clear ht hb
    refine hK1.out _ _ (fun _ => pin_mem HSZ.out) ?_
    clear hK1
    refine wpT_take ?_
    repeat (first | go_big_quiet_step ((fail)) | quiet_step ((fail)))
    refine wpQuiet_nil ?_
    refine wpT_done ?_
    go_wp2_with fail
    with_reducible refine (give_ok HP8.out HPL.out HL3.out hq HPL4.out HL8.out HM.out HT7.out HPK.out.1 HPK.out.2.1 HPK.out.2.2).mono ?_
    intro e w8 ho
    have HO := hide (ho.after HB8.out)
    obtain ⟨he, _⟩ := ho
    subst he
    go_wp2_with fail
    go_ret
    exact HO.out
set_option maxHeartbeats 16000000 in
set_option maxRecDepth 100000 in
theorem makes2_bad (h : PlM D B w pp k s n ms ns Vn ts vs Vt Hs Vh) (P : Pl s n ms q Fs ns ts Hs) (L : Live w k s) (hq : q ≤ 60) (X : ActM B w xf xg xh xi A1 c1 l1 A2 c2 l2 A3 c3 l3) (hbad : xf < 0 ∨ xg < 0) :
    Calls Tryz.prog 9 #[.pointer (some ⟨pp, 0, none⟩), .agg (actC 2 xf xg xh xi xb A1 l1.length c1 A2 l2.length c2 A3 l3.length c3)] w (MkOut D B pp n ms q w) := by
  have HBW := hide (Nat.le_trans h.lo (Nat.le_of_lt h.lt))
  have HBAD := hide hbad
  obtain ⟨jf, hjf⟩ : ∃ j : Int, ofP ns.length xf = j := ⟨_, rfl⟩
  have sf := of_sign (m := ns.length) (x := xf)
  rw [hjf] at sf
  have Hof := hide hjf
  obtain ⟨jg, hjg⟩ : ∃ j : Int, ofP ns.length xg = j := ⟨_, rfl⟩
  have sg := of_sign (m := ns.length) (x := xg)
  rw [hjg] at sg
  have Hog := hide hjg
  have HW : (decide (jf < 0) = true) ∨ (decide (jf < 0) = false ∧ decide (jg < 0) = true) := by
    have hb' := hbad
    rw [show (xf < 0) = (decide (jf < 0) = true) from propext (sf.symm.trans decide_eq_true_iff.symm)] at hb'
    rw [show (xg < 0) = (decide (jg < 0) = true) from propext (sg.symm.trans decide_eq_true_iff.symm)] at hb'
    revert hb'
    generalize decide (jf < 0) = v0
    generalize decide (jg < 0) = v1
    clear HBAD hbad h P L hq X
    cases v0 <;> cases v1 <;> simp
  clear hbad sf hjf sg hjg
  have hbx := bel_one w (.cells #[.int .u8 2, .int .i64 xf, .int .i64 xg, .int .i64 xh, .int .i64 xi, .bool xb, .slice A1 l1.length c1, .slice A2 l2.length c2, .slice A3 l3.length c3] 39)
  have HP1 := hide (h.below hbx)
  have hx0 := heap_new w (.cells #[.int .u8 2, .int .i64 xf, .int .i64 xg, .int .i64 xh, .int .i64 xi, .bool xb, .slice A1 l1.length c1, .slice A2 l2.length c2, .slice A3 l3.length c3] 39)
  have HX1 := hide hx0
  have HL1 := hide (L.below hbx)
  have HX2 := hide (X.below hbx)
  have HB1 := hide hbx
  have HN := hide (fun (v : Int) (hv : I64 v) (z : World) (hz : PlM D B z pp k s n ms ns Vn ts vs Vt Hs Vh) => of_any hz P.two (by have := P.sm; omega) v hv)
  have HPL := hide P
  have HI := hide (And.intro X.f (And.intro X.g (And.intro X.h X.i)))
  clear h X L hbx hx0 P
  go_enter Tryz.func9, Tryz.ntmps9
  go_upto_region 1 with fail
  generalize w.alloc (.cells #[.int .u8 2, .int .i64 xf, .int .i64 xg, .int .i64 xh, .int .i64 xi, .bool xb, .slice A1 l1.length c1, .slice A2 l2.length c2, .slice A3 l3.length c3] 39) = w1 at *
  have b1 := lat_cell (cell_heap (j := 1) HX1.out rfl)
  have b2 := lat_cell (cell_heap (j := 2) HX1.out rfl)
  have b3 := lat_cell (cell_heap (j := 3) HX1.out rfl)
  have HF := hide (fun z => HN.out xf HI.out.1 (lat w1 z) (HP1.out.below (lat_below w1 z)))
  have HG := hide (fun z => HN.out xg HI.out.2.1 (lat w1 z) (HP1.out.below (lat_below w1 z)))
  have HH := hide (fun z => HN.out xh HI.out.2.2.1 (lat w1 z) (HP1.out.below (lat_below w1 z)))
  rw [Hof.out] at HF
  rw [Hog.out] at HG
  generalize ofP ns.length xh = yh at *
  rcases HW with e0 | ⟨e0, e1⟩
  all_goals (
    clear HN HI
    go_wp2_with fail
    refine wp_region_lat (by kernel_rfl) (by kernel_rfl) ?_
    repeat (first | go_big_quiet_step ((first | (go_at_call 12; with_reducible exact calls_lat_same (HF.out _)) | (go_at_call 12; with_reducible exact calls_lat_same (HG.out _)) | (go_at_call 12; with_reducible exact calls_lat_same (HH.out _)))) | quiet_step ((first | (go_at_call 12; with_reducible exact calls_lat_same (HF.out _)) | (go_at_call 12; with_reducible exact calls_lat_same (HG.out _)) | (go_at_call 12; with_reducible exact calls_lat_same (HH.out _)))))
    refine wpQuiet_nil ?_
    intro _ hlat
    obtain ⟨wq, rfl⟩ := hlat
    have HP2 := hide (HP1.out.below (lat_below w1 wq))
    have hx2 := heapB (lat_below w1 wq) HX1.out
    have HX12 := hide hx2
    have HL2 := hide (HL1.out.below (lat_below w1 wq))
    have HX3 := hide (HX2.out.below (lat_below w1 wq))
    have HB2 := hide (below_wide HB1.out (lat_below w1 wq))
    clear HP1 HX1 HL1 HX2 HB1 b1 b2 b3 HF HG HH
    generalize lat w1 wq = w2 at *
    have hd := cell_heap (j := 0) hx2 rfl
    have hdq := lat_cell hd
    clear hx2
    go_wp2_with fail
    simp only [List.append_eq, List.cons_append, List.nil_append]
    refine wp_region_lat (by kernel_rfl) (lex_of (by kernel_rfl) lex7) ?_
    repeat (first | go_big_quiet_step ((fail)) | quiet_step ((fail)))
    refine wpQuiet_nil ?_
    intro _ hlat
    obtain ⟨wp, rfl⟩ := hlat
    have HP3 := hide (HP2.out.below (lat_below w2 wp))
    have hx3 := heapB (lat_below w2 wp) HX12.out
    have HX13 := hide hx3
    have HL3 := hide (HL2.out.below (lat_below w2 wp))
    have HX4 := hide (HX3.out.below (lat_below w2 wp))
    have HB3 := hide (below_wide HB2.out (lat_below w2 wp))
    clear HP2 HX12 HL2 HX3 HB2 hd hdq
    generalize lat w2 wp = w3 at *
    have z0 := cell_heap (j := 0) hx3 rfl
    have z1 := cell_heap (j := 1) hx3 rfl
    have z2 := cell_heap (j := 2) hx3 rfl
    have z3 := cell_heap (j := 3) hx3 rfl
    have z4 := cell_heap (j := 4) hx3 rfl
    have z5 := cell_heap (j := 5) hx3 rfl
    have z6 := cell_heap (j := 6) hx3 rfl
    have z7 := cell_heap (j := 7) hx3 rfl
    have z8 := cell_heap (j := 8) hx3 rfl
    clear hx3
    have HCALL := hide (call2_bad (xb := xb) HP3.out HPL.out HL3.out hq HX4.out HBAD.out)
    go_wp2_with fail
    refine HCALL.out.mono ?_
    rintro e w4 ⟨rfl, hb⟩
    have HP4 := hide (HP3.out.below hb)
    have HL4 := hide (HL3.out.below hb)
    have HB4 := hide ((below_wide HB3.out hb).mono HBW.out)
    clear hb HCALL z0 z1 z2 z3 z4 z5 z6 z7 z8
    go_wp2_with fail
    with_reducible refine (give_no HP4.out HPL.out HL4.out _).mono ?_
    intro e w5 ho
    have HO := hide (ho.after HB4.out)
    obtain ⟨he, _⟩ := ho
    subst he
    go_wp2_with fail
    go_ret
    exact HO.out)
end
end Go.Proofs.YtgfjdkkfgclhjaaGreat.Bd
/- makes, walked for acts of kind 3 (printed by gen_ey.py). -/
namespace Go.Proofs.YtgfjdkkfgclhjaaGreat.Bd
open Go.RowKit Go.Proofs.YtgfjdkkfgclhjaaGreat Go.Proofs.YtgfjdkkfgclhjaaGreat.Lx Go.Maps

section
variable {D : Nat → Array Value → TypeId → Prop} {B : Nat} {w w' : World} {pp : Nat} {k : Blk} {s : St} {n ms q : Nat} {ns : List Nat} {Vn : Value} {ts : List Tb} {vs : List Value} {Vt : Value} {Hs : List Tb} {Vh : Value} {Fs : List (Env → Bool)} {xf xg xh xi : Int} {xb : Bool} {A1 A2 A3 : Option Addr} {c1 c2 c3 : Nat} {l1 l2 : List Int} {l3 : List Bool}
set_option maxHeartbeats 16000000 in
set_option maxRecDepth 100000 in
theorem makes3_good (h : PlM D B w pp k s n ms ns Vn ts vs Vt Hs Vh) (P : Pl s n ms q Fs ns ts Hs) (L : Live w k s) (hq : q ≤ 60) (X : ActM B w xf xg xh xi A1 c1 l1 A2 c2 l2 A3 c3 l3) (m : Nat) (hm : m = 2 ^ n) (af jf : Nat) (F : Env → Bool) (ef : nodeP ns xf = (af : Int)) (of : ofP ns.length xf = (jf : Int)) (uf : jf < ts.length) (tf : ts[jf]? = some (tab n F)) (nf : Nod s af (lowV n) F) (ag jg : Nat) (G : Env → Bool) (eg : nodeP ns xg = (ag : Int)) (og : ofP ns.length xg = (jg : Int)) (ug : jg < ts.length) (tg : ts[jg]? = some (tab n G)) (ng : Nod s ag (lowV n) G) :
    Calls Tryz.prog 9 #[.pointer (some ⟨pp, 0, none⟩), .agg (actC 3 xf xg xh xi xb A1 l1.length c1 A2 l2.length c2 A3 l3.length c3)] w (MkOut D B pp n ms q w) := by
  have HM := hide hm
  have HBW := hide (Nat.le_trans h.lo (Nat.le_of_lt h.lt))
  have hn6 := P.n6
  clear hm
  have hbx := bel_one w (.cells #[.int .u8 3, .int .i64 xf, .int .i64 xg, .int .i64 xh, .int .i64 xi, .bool xb, .slice A1 l1.length c1, .slice A2 l2.length c2, .slice A3 l3.length c3] 39)
  have HP1 := hide (h.below hbx)
  have hx0 := heap_new w (.cells #[.int .u8 3, .int .i64 xf, .int .i64 xg, .int .i64 xh, .int .i64 xi, .bool xb, .slice A1 l1.length c1, .slice A2 l2.length c2, .slice A3 l3.length c3] 39)
  have HX1 := hide hx0
  have HL1 := hide (L.below hbx)
  have HX2 := hide (X.below hbx)
  have HB1 := hide hbx
  have HN := hide (fun (v : Int) (hv : I64 v) (z : World) (hz : PlM D B z pp k s n ms ns Vn ts vs Vt Hs Vh) => of_any hz P.two (by have := P.sm; omega) v hv)
  have HPL := hide P
  have HI := hide (And.intro X.f (And.intro X.g (And.intro X.h X.i)))
  clear h X L hbx hx0 P
  go_enter Tryz.func9, Tryz.ntmps9
  go_upto_region 1 with fail
  generalize w.alloc (.cells #[.int .u8 3, .int .i64 xf, .int .i64 xg, .int .i64 xh, .int .i64 xi, .bool xb, .slice A1 l1.length c1, .slice A2 l2.length c2, .slice A3 l3.length c3] 39) = w1 at *
  have b1 := lat_cell (cell_heap (j := 1) HX1.out rfl)
  have b2 := lat_cell (cell_heap (j := 2) HX1.out rfl)
  have b3 := lat_cell (cell_heap (j := 3) HX1.out rfl)
  have HF := hide (fun z => HN.out xf HI.out.1 (lat w1 z) (HP1.out.below (lat_below w1 z)))
  have HG := hide (fun z => HN.out xg HI.out.2.1 (lat w1 z) (HP1.out.below (lat_below w1 z)))
  have HH := hide (fun z => HN.out xh HI.out.2.2.1 (lat w1 z) (HP1.out.below (lat_below w1 z)))
  rw [of] at HF
  rw [og] at HG
  generalize ofP ns.length xh = yh at *
  have df : decide ((jf : Int) < 0) = false := decide_eq_false (by omega)
  have dg : decide ((jg : Int) < 0) = false := decide_eq_false (by omega)
  have Hof := hide of
  have Hef := hide ef
  clear of ef
  have Hog := hide og
  have Heg := hide eg
  clear og eg
  clear HN HI
  go_wp2_with fail
  refine wp_region_lat (by kernel_rfl) (by kernel_rfl) ?_
  repeat (first | go_big_quiet_step ((first | (go_at_call 12; with_reducible exact calls_lat_same (HF.out _)) | (go_at_call 12; with_reducible exact calls_lat_same (HG.out _)) | (go_at_call 12; with_reducible exact calls_lat_same (HH.out _)))) | quiet_step ((first | (go_at_call 12; with_reducible exact calls_lat_same (HF.out _)) | (go_at_call 12; with_reducible exact calls_lat_same (HG.out _)) | (go_at_call 12; with_reducible exact calls_lat_same (HH.out _)))))
  refine wpQuiet_nil ?_
  intro _ hlat
  obtain ⟨wq, rfl⟩ := hlat
  have HP2 := hide (HP1.out.below (lat_below w1 wq))
  have hx2 := heapB (lat_below w1 wq) HX1.out
  have HX12 := hide hx2
  have HL2 := hide (HL1.out.below (lat_below w1 wq))
  have HX3 := hide (HX2.out.below (lat_below w1 wq))
  have HB2 := hide (below_wide HB1.out (lat_below w1 wq))
  clear HP1 HX1 HL1 HX2 HB1 b1 b2 b3 HF HG HH
  generalize lat w1 wq = w2 at *
  have hd := cell_heap (j := 0) hx2 rfl
  have hdq := lat_cell hd
  clear hx2
  go_wp2_with fail
  simp only [List.append_eq, List.cons_append, List.nil_append]
  refine wp_region_lat (by kernel_rfl) (lex_of (by kernel_rfl) lex7) ?_
  repeat (first | go_big_quiet_step ((fail)) | quiet_step ((fail)))
  refine wpQuiet_nil ?_
  intro _ hlat
  obtain ⟨wp, rfl⟩ := hlat
  have HP3 := hide (HP2.out.below (lat_below w2 wp))
  have hx3 := heapB (lat_below w2 wp) HX12.out
  have HX13 := hide hx3
  have HL3 := hide (HL2.out.below (lat_below w2 wp))
  have HX4 := hide (HX3.out.below (lat_below w2 wp))
  have HB3 := hide (below_wide HB2.out (lat_below w2 wp))
  clear HP2 HX12 HL2 HX3 HB2 hd hdq
  generalize lat w2 wp = w3 at *
  have z0 := cell_heap (j := 0) hx3 rfl
  have z1 := cell_heap (j := 1) hx3 rfl
  have z2 := cell_heap (j := 2) hx3 rfl
  have z3 := cell_heap (j := 3) hx3 rfl
  have z4 := cell_heap (j := 4) hx3 rfl
  have z5 := cell_heap (j := 5) hx3 rfl
  have z6 := cell_heap (j := 6) hx3 rfl
  have z7 := cell_heap (j := 7) hx3 rfl
  have z8 := cell_heap (j := 8) hx3 rfl
  clear hx3
  have HCALL := hide (call3_good (xb := xb) HP3.out HPL.out HL3.out hq HX4.out  af F Hef.out nf ag G Heg.out ng)
  go_wp2_with fail
  refine HCALL.out.mono ?_
  intro e w4 ho
  have hans := HPL.out.answer HL3.out hq ho
  clear ho HCALL z0 z1 z2 z3 z4 z5 z6 z7 z8
  rcases hans with ⟨k4, s4, rfl, L4, T4, P4, hful⟩ | ⟨k4, s4, r, rfl, L4, T4, P4, hok, hr, hcmp⟩
  · have HPF := hide hful
    clear hful
    have HP4 := hide (HP3.out.turn T4 L4.ar)
    have HX14 := hide (T4.heap HX13.out (fp_type HP3.out.ar HX13.out (by decide) (by decide)))
    have HX5 := hide (HX4.out.turn HP3.out T4)
    have HB4 := hide (show Below B w w4 from (HB3.out.mono HBW.out).trans (T4.low HP3.out.fpl (Nat.le_trans HP3.out.lo (Nat.le_of_lt HP3.out.lt))))
    have HL4 := hide L4
    have HPL4 := hide P4
    clear L4 T4 P4 HP3 HX13 HX4 HB3
    have y1 := HP4.out.cell (j := 1) rfl
    go_wp2_with fail
    with_reducible refine (All_t HM.out hn6 false).mono ?_
    rintro e w5 ⟨gno, rfl, hno, hb⟩
    have HP5 := hide (HP4.out.below hb)
    have HX15 := hide (heapB hb HX14.out)
    have HX6 := hide (HX5.out.below hb)
    have HB5 := hide (HB4.out.trans (hb.mono (Nat.le_trans HP4.out.lo (Nat.le_of_lt HP4.out.lt))))
    have HL5 := hide (HL4.out.below hb)
    have HNO := hide hno
    clear hno hb y1 HP4 HX14 HX5 HB4 HL4
    have y1 := HP5.out.cell (j := 1) rfl
    go_wp2_with fail
    with_reducible refine (All_t HM.out hn6 true).mono ?_
    rintro e w6 ⟨gye, rfl, hye, hb⟩
    have HP6 := hide (HP5.out.below hb)
    have HX16 := hide (heapB hb HX15.out)
    have HX7 := hide (HX6.out.below hb)
    have HB6 := hide (HB5.out.trans (hb.mono (Nat.le_trans HP5.out.lo (Nat.le_of_lt HP5.out.lt))))
    have HL6 := hide (HL5.out.below hb)
    have HNO6 := hide (HNO.out.below hb)
    have HYE6 := hide hye
    clear hye hb y1 HP5 HX15 HX6 HB5 HL5 HNO
    have hd6 := cell_heap (j := 0) HX16.out rfl
    have HSX := hide (show Below w6.heap.size w6 w6.drew from (Below.refl _ _).drew)
    obtain ⟨ad, cV, gf, hVt, tcf, hrf⟩ := HP6.out.row HM.out tf
    subst hVt
    have ixf : ((jf : Nat) : Int) < (ts.length : Int) := by omega
    obtain ⟨adg, cVg, gg, hVt, tcg, hrg⟩ := HP6.out.row HM.out tg
    cases hVt
    have ixg : ((jg : Nat) : Int) < (ts.length : Int) := by omega
    have y4 := HP6.out.cell (j := 4) rfl
    have HP7 := hide (HP6.out.below HSX.out)
    have HX8 := hide (HX7.out.below HSX.out)
    have HB7 := hide (HB6.out.trans (HSX.out.mono (Nat.le_trans HP6.out.lo (Nat.le_of_lt HP6.out.lt))))
    have HL7 := hide (HL6.out.below HSX.out)
    have HNO7 := hide (HNO6.out.below HSX.out)
    have HYE7 := hide (HYE6.out.below HSX.out)
    have Rf := hide (hrf.below HSX.out)
    have tqf := fun z => cellB (pin_in (S := Below w6.heap.size w6) HSX.out z) tcf
    have Rg := hide (hrg.below HSX.out)
    have tqg := fun z => cellB (pin_in (S := Below w6.heap.size w6) HSX.out z) tcg
    have q4 := fun z => cellB (pin_in (S := Below w6.heap.size w6) HSX.out z) y4
    clear hrf tcf hrg tcg y4 HP6 HX7 HB6 HL6 HNO6 HYE6
    go_wp2_with fail
    refine wp_region_tree ((Below w6.heap.size w6)) (fun k => ([] : List Nat).contains k) (.take [0, 1, 2, 3, 4, 5, 6, 7, 8, 9, 10, 11, 12, 13, 14] (.step 15 (.take [16] .done))) (by kernel_rfl) (by kernel_rfl) (by kernel_rfl) (by kernel_rfl) (.take (.cons (.zero) (.cons (.succ (.zero)) (.cons (.succ (.succ (.zero))) (.cons (.succ (.succ (.succ (.zero)))) (.cons (.succ (.succ (.succ (.succ (.zero))))) (.cons (.succ (.succ (.succ (.succ (.succ (.zero)))))) (.cons (.succ (.succ (.succ (.succ (.succ (.succ (.zero))))))) (.cons (.succ (.succ (.succ (.succ (.succ (.succ (.succ (.zero)))))))) (.cons (.succ (.succ (.succ (.succ (.succ (.succ (.succ (.succ (.zero))))))))) (.cons (.succ (.succ (.succ (.succ (.succ (.succ (.succ (.succ (.succ (.zero)))))))))) (.cons (.succ (.succ (.succ (.succ (.succ (.succ (.succ (.succ (.succ (.succ (.zero))))))))))) (.cons (.succ (.succ (.succ (.succ (.succ (.succ (.succ (.succ (.succ (.succ (.succ (.zero)))))))))))) (.cons (.succ (.succ (.succ (.succ (.succ (.succ (.succ (.succ (.succ (.succ (.succ (.succ (.zero))))))))))))) (.cons (.succ (.succ (.succ (.succ (.succ (.succ (.succ (.succ (.succ (.succ (.succ (.succ (.succ (.zero)))))))))))))) (.cons (.succ (.succ (.succ (.succ (.succ (.succ (.succ (.succ (.succ (.succ (.succ (.succ (.succ (.succ (.zero))))))))))))))) .nil))))))))))))))) (.step (.succ (.succ (.succ (.succ (.succ (.succ (.succ (.succ (.succ (.succ (.succ (.succ (.succ (.succ (.succ (.zero)))))))))))))))) rfl (.take (.cons (.succ (.succ (.succ (.succ (.succ (.succ (.succ (.succ (.succ (.succ (.succ (.succ (.succ (.succ (.succ (.succ (.zero))))))))))))))))) .nil) .done))) ?hQ ?hS ?_
    case hQ => exact fun _ _ _ _ _ h => h
    case hS => exact HSX.out
    refine wpT_take ?_
    repeat (first | go_big_quiet_step ((fail)) | quiet_step ((fail)))
    refine wpQuiet_nil ?_
    clear tqf tqg q4 hd6
    generalize w6.drew = x6 at *
    refine wpT_step rfl ?_
    intro K1 hK1
    go_wp2_with fail
    with_reducible refine (Ite_t HM.out hn6 Rf.out HYE7.out Rg.out).mono ?_
    rintro e w7 ⟨gt, rfl, ht, hb⟩
    have HSZ := hide (HSX.out.trans (hb.mono HSX.out.size))
    have HT7 := hide ht
    have HP8 := hide (HP7.out.below hb)
    have HL8 := hide (HL7.out.below hb)
    have HB8 := hide (HB7.out.trans (hb.mono (Nat.le_trans HP7.out.lo (Nat.le_of_lt HP7.out.lt))))
    clear ht hb
    refine hK1.out _ _ (fun _ => pin_mem HSZ.out) ?_
    clear hK1
    refine wpT_take ?_
    repeat (first | go_big_quiet_step ((fail)) | quiet_step ((fail)))
    refine wpQuiet_nil ?_
    refine wpT_done ?_
    go_wp2_with fail
    with_reducible refine (give_full HP8.out HPL4.out HL8.out HM.out HT7.out HPF.out).mono ?_
    intro e w8 ho
    have HO := hide (ho.after HB8.out)
    obtain ⟨he, _⟩ := ho
    subst he
    go_wp2_with fail
    go_ret
    exact HO.out
  · have HPK := hide (And.intro hok (And.intro hr hcmp))
    clear hok hr hcmp
    have HP4 := hide (HP3.out.turn T4 L4.ar)
    have HX14 := hide (T4.heap HX13.out (fp_type HP3.out.ar HX13.out (by decide) (by decide)))
    have HX5 := hide (HX4.out.turn HP3.out T4)
    have HB4 := hide (show Below B w w4 from (HB3.out.mono HBW.out).trans (T4.low HP3.out.fpl (Nat.le_trans HP3.out.lo (Nat.le_of_lt HP3.out.lt))))
    have HL4 := hide L4
    have HPL4 := hide P4
    clear L4 T4 P4 HP3 HX13 HX4 HB3
    have y1 := HP4.out.cell (j := 1) rfl
    go_wp2_with fail
    with_reducible refine (All_t HM.out hn6 false).mono ?_
    rintro e w5 ⟨gno, rfl, hno, hb⟩
    have HP5 := hide (HP4.out.below hb)
    have HX15 := hide (heapB hb HX14.out)
    have HX6 := hide (HX5.out.below hb)
    have HB5 := hide (HB4.out.trans (hb.mono (Nat.le_trans HP4.out.lo (Nat.le_of_lt HP4.out.lt))))
    have HL5 := hide (HL4.out.below hb)
    have HNO := hide hno
    clear hno hb y1 HP4 HX14 HX5 HB4 HL4
    have y1 := HP5.out.cell (j := 1) rfl
    go_wp2_with fail
    with_reducible refine (All_t HM.out hn6 true).mono ?_
    rintro e w6 ⟨gye, rfl, hye, hb⟩
    have HP6 := hide (HP5.out.below hb)
    have HX16 := hide (heapB hb HX15.out)
    have HX7 := hide (HX6.out.below hb)
    have HB6 := hide (HB5.out.trans (hb.mono (Nat.le_trans HP5.out.lo (Nat.le_of_lt HP5.out.lt))))
    have HL6 := hide (HL5.out.below hb)
    have HNO6 := hide (HNO.out.below hb)
    have HYE6 := hide hye
    clear hye hb y1 HP5 HX15 HX6 HB5 HL5 HNO
    have hd6 := cell_heap (j := 0) HX16.out rfl
    have HSX := hide (show Below w6.heap.size w6 w6.drew from (Below.refl _ _).drew)
    obtain ⟨ad, cV, gf, hVt, tcf, hrf⟩ := HP6.out.row HM.out tf
    subst hVt
    have ixf : ((jf : Nat) : Int) < (ts.length : Int) := by omega
    obtain ⟨adg, cVg, gg, hVt, tcg, hrg⟩ := HP6.out.row HM.out tg
    cases hVt
    have ixg : ((jg : Nat) : Int) < (ts.length : Int) := by omega
    have y4 := HP6.out.cell (j := 4) rfl
    have HP7 := hide (HP6.out.below HSX.out)
    have HX8 := hide (HX7.out.below HSX.out)
    have HB7 := hide (HB6.out.trans (HSX.out.mono (Nat.le_trans HP6.out.lo (Nat.le_of_lt HP6.out.lt))))
    have HL7 := hide (HL6.out.below HSX.out)
    have HNO7 := hide (HNO6.out.below HSX.out)
    have HYE7 := hide (HYE6.out.below HSX.out)
    have Rf := hide (hrf.below HSX.out)
    have tqf := fun z => cellB (pin_in (S := Below w6.heap.size w6) HSX.out z) tcf
    have Rg := hide (hrg.below HSX.out)
    have tqg := fun z => cellB (pin_in (S := Below w6.heap.size w6) HSX.out z) tcg
    have q4 := fun z => cellB (pin_in (S := Below w6.heap.size w6) HSX.out z) y4
    clear hrf tcf hrg tcg y4 HP6 HX7 HB6 HL6 HNO6 HYE6
    go_wp2_with fail
    refine wp_region_tree ((Below w6.heap.size w6)) (fun k => ([] : List Nat).contains k) (.take [0, 1, 2, 3, 4, 5, 6, 7, 8, 9, 10, 11, 12, 13, 14] (.step 15 (.take [16] .done))) (by kernel_rfl) (by kernel_rfl) (by kernel_rfl) (by kernel_rfl) (.take (.cons (.zero) (.cons (.succ (.zero)) (.cons (.succ (.succ (.zero))) (.cons (.succ (.succ (.succ (.zero)))) (.cons (.succ (.succ (.succ (.succ (.zero))))) (.cons (.succ (.succ (.succ (.succ (.succ (.zero)))))) (.cons (.succ (.succ (.succ (.succ (.succ (.succ (.zero))))))) (.cons (.succ (.succ (.succ (.succ (.succ (.succ (.succ (.zero)))))))) (.cons (.succ (.succ (.succ (.succ (.succ (.succ (.succ (.succ (.zero))))))))) (.cons (.succ (.succ (.succ (.succ (.succ (.succ (.succ (.succ (.succ (.zero)))))))))) (.cons (.succ (.succ (.succ (.succ (.succ (.succ (.succ (.succ (.succ (.succ (.zero))))))))))) (.cons (.succ (.succ (.succ (.succ (.succ (.succ (.succ (.succ (.succ (.succ (.succ (.zero)))))))))))) (.cons (.succ (.succ (.succ (.succ (.succ (.succ (.succ (.succ (.succ (.succ (.succ (.succ (.zero))))))))))))) (.cons (.succ (.succ (.succ (.succ (.succ (.succ (.succ (.succ (.succ (.succ (.succ (.succ (.succ (.zero)))))))))))))) (.cons (.succ (.succ (.succ (.succ (.succ (.succ (.succ (.succ (.succ (.succ (.succ (.succ (.succ (.succ (.zero))))))))))))))) .nil))))))))))))))) (.step (.succ (.succ (.succ (.succ (.succ (.succ (.succ (.succ (.succ (.succ (.succ (.succ (.succ (.succ (.succ (.zero)))))))))))))))) rfl (.take (.cons (.succ (.succ (.succ (.succ (.succ (.succ (.succ (.succ (.succ (.succ (.succ (.succ (.succ (.succ (.succ (.succ (.zero))))))))))))))))) .nil) .done))) ?hQ ?hS ?_
    case hQ => exact fun _ _ _ _ _ h => h
    case hS => exact HSX.out
    refine wpT_take ?_
    repeat (first | go_big_quiet_step ((fail)) | quiet_step ((fail)))
    refine wpQuiet_nil ?_
    clear tqf tqg q4 hd6
    generalize w6.drew = x6 at *
    refine wpT_step rfl ?_
    intro K1 hK1
    go_wp2_with fail
    with_reducible refine (Ite_t HM.out hn6 Rf.out HYE7.out Rg.out).mono ?_
    rintro e w7 ⟨gt, rfl, ht, hb⟩
    have HSZ := hide (HSX.out.trans (hb.mono HSX.out.size))
    have HT7 := hide ht
    have HP8 := hide (HP7.out.below hb)
    have HL8 := hide (HL7.out.below hb)
    have HB8 := hide (HB7.out.trans (hb.mono (Nat.le_trans HP7.out.lo (Nat.le_of_lt HP7.out.lt))))
    clear ht hb
    refine hK1.out _ _ (fun _ => pin_mem HSZ.out) ?_
    clear hK1
    refine wpT_take ?_
    repeat (first | go_big_quiet_step ((fail)) | quiet_step ((fail)))
    refine wpQuiet_nil ?_
    refine wpT_done ?_
    go_wp2_with fail
    with_reducible refine (give_ok HP8.out HPL.out HL3.out hq HPL4.out HL8.out HM.out HT7.out HPK.out.1 HPK.out.2.1 HPK.out.2.2).mono ?_
    intro e w8 ho
    have HO := hide (ho.after HB8.out)
    obtain ⟨he, _⟩ := ho
    subst he
    go_wp2_with fail
    go_ret
    exact HO.out
set_option maxHeartbeats 16000000 in
set_option maxRecDepth 100000 in
theorem makes3_bad (h : PlM D B w pp k s n ms ns Vn ts vs Vt Hs Vh) (P : Pl s n ms q Fs ns ts Hs) (L : Live w k s) (hq : q ≤ 60) (X : ActM B w xf xg xh xi A1 c1 l1 A2 c2 l2 A3 c3 l3) (hbad : xf < 0 ∨ xg < 0) :
    Calls Tryz.prog 9 #[.pointer (some ⟨pp, 0, none⟩), .agg (actC 3 xf xg xh xi xb A1 l1.length c1 A2 l2.length c2 A3 l3.length c3)] w (MkOut D B pp n ms q w) := by
  have HBW := hide (Nat.le_trans h.lo (Nat.le_of_lt h.lt))
  have HBAD := hide hbad
  obtain ⟨jf, hjf⟩ : ∃ j : Int, ofP ns.length xf = j := ⟨_, rfl⟩
  have sf := of_sign (m := ns.length) (x := xf)
  rw [hjf] at sf
  have Hof := hide hjf
  obtain ⟨jg, hjg⟩ : ∃ j : Int, ofP ns.length xg = j := ⟨_, rfl⟩
  have sg := of_sign (m := ns.length) (x := xg)
  rw [hjg] at sg
  have Hog := hide hjg
  have HW : (decide (jf < 0) = true) ∨ (decide (jf < 0) = false ∧ decide (jg < 0) = true) := by
    have hb' := hbad
    rw [show (xf < 0) = (decide (jf < 0) = true) from propext (sf.symm.trans decide_eq_true_iff.symm)] at hb'
    rw [show (xg < 0) = (decide (jg < 0) = true) from propext (sg.symm.trans decide_eq_true_iff.symm)] at hb'
    revert hb'
    generalize decide (jf < 0) = v0
    generalize decide (jg < 0) = v1
    clear HBAD hbad h P L hq X
    cases v0 <;> cases v1 <;> simp
  clear hbad sf hjf sg hjg
  have hbx := bel_one w (.cells #[.int .u8 3, .int .i64 xf, .int .i64 xg, .int .i64 xh, .int .i64 xi, .bool xb, .slice A1 l1.length c1, .slice A2 l2.length c2, .slice A3 l3.length c3] 39)
  have HP1 := hide (h.below hbx)
  have hx0 := heap_new w (.cells #[.int .u8 3, .int .i64 xf, .int .i64 xg, .int .i64 xh, .int .i64 xi, .bool xb, .slice A1 l1.length c1, .slice A2 l2.length c2, .slice A3 l3.length c3] 39)
  have HX1 := hide hx0
  have HL1 := hide (L.below hbx)
  have HX2 := hide (X.below hbx)
  have HB1 := hide hbx
  have HN := hide (fun (v : Int) (hv : I64 v) (z : World) (hz : PlM D B z pp k s n ms ns Vn ts vs Vt Hs Vh) => of_any hz P.two (by have := P.sm; omega) v hv)
  have HPL := hide P
  have HI := hide (And.intro X.f (And.intro X.g (And.intro X.h X.i)))
  clear h X L hbx hx0 P
  go_enter Tryz.func9, Tryz.ntmps9
  go_upto_region 1 with fail
  generalize w.alloc (.cells #[.int .u8 3, .int .i64 xf, .int .i64 xg, .int .i64 xh, .int .i64 xi, .bool xb, .slice A1 l1.length c1, .slice A2 l2.length c2, .slice A3 l3.length c3] 39) = w1 at *
  have b1 := lat_cell (cell_heap (j := 1) HX1.out rfl)
  have b2 := lat_cell (cell_heap (j := 2) HX1.out rfl)
  have b3 := lat_cell (cell_heap (j := 3) HX1.out rfl)
  have HF := hide (fun z => HN.out xf HI.out.1 (lat w1 z) (HP1.out.below (lat_below w1 z)))
  have HG := hide (fun z => HN.out xg HI.out.2.1 (lat w1 z) (HP1.out.below (lat_below w1 z)))
  have HH := hide (fun z => HN.out xh HI.out.2.2.1 (lat w1 z) (HP1.out.below (lat_below w1 z)))
  rw [Hof.out] at HF
  rw [Hog.out] at HG
  generalize ofP ns.length xh = yh at *
  rcases HW with e0 | ⟨e0, e1⟩
  all_goals (
    clear HN HI
    go_wp2_with fail
    refine wp_region_lat (by kernel_rfl) (by kernel_rfl) ?_
    repeat (first | go_big_quiet_step ((first | (go_at_call 12; with_reducible exact calls_lat_same (HF.out _)) | (go_at_call 12; with_reducible exact calls_lat_same (HG.out _)) | (go_at_call 12; with_reducible exact calls_lat_same (HH.out _)))) | quiet_step ((first | (go_at_call 12; with_reducible exact calls_lat_same (HF.out _)) | (go_at_call 12; with_reducible exact calls_lat_same (HG.out _)) | (go_at_call 12; with_reducible exact calls_lat_same (HH.out _)))))
    refine wpQuiet_nil ?_
    intro _ hlat
    obtain ⟨wq, rfl⟩ := hlat
    have HP2 := hide (HP1.out.below (lat_below w1 wq))
    have hx2 := heapB (lat_below w1 wq) HX1.out
    have HX12 := hide hx2
    have HL2 := hide (HL1.out.below (lat_below w1 wq))
    have HX3 := hide (HX2.out.below (lat_below w1 wq))
    have HB2 := hide (below_wide HB1.out (lat_below w1 wq))
    clear HP1 HX1 HL1 HX2 HB1 b1 b2 b3 HF HG HH
    generalize lat w1 wq = w2 at *
    have hd := cell_heap (j := 0) hx2 rfl
    have hdq := lat_cell hd
    clear hx2
    go_wp2_with fail
    simp only [List.append_eq, List.cons_append, List.nil_append]
    refine wp_region_lat (by kernel_rfl) (lex_of (by kernel_rfl) lex7) ?_
    repeat (first | go_big_quiet_step ((fail)) | quiet_step ((fail)))
    refine wpQuiet_nil ?_
    intro _ hlat
    obtain ⟨wp, rfl⟩ := hlat
    have HP3 := hide (HP2.out.below (lat_below w2 wp))
    have hx3 := heapB (lat_below w2 wp) HX12.out
    have HX13 := hide hx3
    have HL3 := hide (HL2.out.below (lat_below w2 wp))
    have HX4 := hide (HX3.out.below (lat_below w2 wp))
    have HB3 := hide (below_wide HB2.out (lat_below w2 wp))
    clear HP2 HX12 HL2 HX3 HB2 hd hdq
    generalize lat w2 wp = w3 at *
    have z0 := cell_heap (j := 0) hx3 rfl
    have z1 := cell_heap (j := 1) hx3 rfl
    have z2 := cell_heap (j := 2) hx3 rfl
    have z3 := cell_heap (j := 3) hx3 rfl
    have z4 := cell_heap (j := 4) hx3 rfl
    have z5 := cell_heap (j := 5) hx3 rfl
    have z6 := cell_heap (j := 6) hx3 rfl
    have z7 := cell_heap (j := 7) hx3 rfl
    have z8 := cell_heap (j := 8) hx3 rfl
    clear hx3
    have HCALL := hide (call3_bad (xb := xb) HP3.out HPL.out HL3.out hq HX4.out HBAD.out)
    go_wp2_with fail
    refine HCALL.out.mono ?_
    rintro e w4 ⟨rfl, hb⟩
    have HP4 := hide (HP3.out.below hb)
    have HL4 := hide (HL3.out.below hb)
    have HB4 := hide ((below_wide HB3.out hb).mono HBW.out)
    clear hb HCALL z0 z1 z2 z3 z4 z5 z6 z7 z8
    go_wp2_with fail
    with_reducible refine (give_no HP4.out HPL.out HL4.out _).mono ?_
    intro e w5 ho
    have HO := hide (ho.after HB4.out)
    obtain ⟨he, _⟩ := ho
    subst he
    go_wp2_with fail
    go_ret
    exact HO.out)
end
end Go.Proofs.YtgfjdkkfgclhjaaGreat.Bd
/- makes, walked for acts of kind 4 (printed by gen_ey.py). -/
namespace Go.Proofs.YtgfjdkkfgclhjaaGreat.Bd
open Go.RowKit Go.Proofs.YtgfjdkkfgclhjaaGreat Go.Proofs.YtgfjdkkfgclhjaaGreat.Lx Go.Maps

section
variable {D : Nat → Array Value → TypeId → Prop} {B : Nat} {w w' : World} {pp : Nat} {k : Blk} {s : St} {n ms q : Nat} {ns : List Nat} {Vn : Value} {ts : List Tb} {vs : List Value} {Vt : Value} {Hs : List Tb} {Vh : Value} {Fs : List (Env → Bool)} {xf xg xh xi : Int} {xb : Bool} {A1 A2 A3 : Option Addr} {c1 c2 c3 : Nat} {l1 l2 : List Int} {l3 : List Bool}
set_option maxHeartbeats 16000000 in
set_option maxRecDepth 100000 in
theorem makes4_good (h : PlM D B w pp k s n ms ns Vn ts vs Vt Hs Vh) (P : Pl s n ms q Fs ns ts Hs) (L : Live w k s) (hq : q ≤ 60) (X : ActM B w xf xg xh xi A1 c1 l1 A2 c2 l2 A3 c3 l3) (m : Nat) (hm : m = 2 ^ n) (af jf : Nat) (F : Env → Bool) (ef : nodeP ns xf = (af : Int)) (of : ofP ns.length xf = (jf : Int)) (uf : jf < ts.length) (tf : ts[jf]? = some (tab n F)) (nf : Nod s af (lowV n) F) (ag jg : Nat) (G : Env → Bool) (eg : nodeP ns xg = (ag : Int)) (og : ofP ns.length xg = (jg : Int)) (ug : jg < ts.length) (tg : ts[jg]? = some (tab n G)) (ng : Nod s ag (lowV n) G) :
    Calls Tryz.prog 9 #[.pointer (some ⟨pp, 0, none⟩), .agg (actC 4 xf xg xh xi xb A1 l1.length c1 A2 l2.length c2 A3 l3.length c3)] w (MkOut D B pp n ms q w) := by
  have HM := hide hm
  have HBW := hide (Nat.le_trans h.lo (Nat.le_of_lt h.lt))
  have hn6 := P.n6
  clear hm
  have hbx := bel_one w (.cells #[.int .u8 4, .int .i64 xf, .int .i64 xg, .int .i64 xh, .int .i64 xi, .bool xb, .slice A1 l1.length c1, .slice A2 l2.length c2, .slice A3 l3.length c3] 39)
  have HP1 := hide (h.below hbx)
  have hx0 := heap_new w (.cells #[.int .u8 4, .int .i64 xf, .int .i64 xg, .int .i64 xh, .int .i64 xi, .bool xb, .slice A1 l1.length c1, .slice A2 l2.length c2, .slice A3 l3.length c3] 39)
  have HX1 := hide hx0
  have HL1 := hide (L.below hbx)
  have HX2 := hide (X.below hbx)
  have HB1 := hide hbx
  have HN := hide (fun (v : Int) (hv : I64 v) (z : World) (hz : PlM D B z pp k s n ms ns Vn ts vs Vt Hs Vh) => of_any hz P.two (by have := P.sm; omega) v hv)
  have HPL := hide P
  have HI := hide (And.intro X.f (And.intro X.g (And.intro X.h X.i)))
  clear h X L hbx hx0 P
  go_enter Tryz.func9, Tryz.ntmps9
  go_upto_region 1 with fail
  generalize w.alloc (.cells #[.int .u8 4, .int .i64 xf, .int .i64 xg, .int .i64 xh, .int .i64 xi, .bool xb, .slice A1 l1.length c1, .slice A2 l2.length c2, .slice A3 l3.length c3] 39) = w1 at *
  have b1 := lat_cell (cell_heap (j := 1) HX1.out rfl)
  have b2 := lat_cell (cell_heap (j := 2) HX1.out rfl)
  have b3 := lat_cell (cell_heap (j := 3) HX1.out rfl)
  have HF := hide (fun z => HN.out xf HI.out.1 (lat w1 z) (HP1.out.below (lat_below w1 z)))
  have HG := hide (fun z => HN.out xg HI.out.2.1 (lat w1 z) (HP1.out.below (lat_below w1 z)))
  have HH := hide (fun z => HN.out xh HI.out.2.2.1 (lat w1 z) (HP1.out.below (lat_below w1 z)))
  rw [of] at HF
  rw [og] at HG
  generalize ofP ns.length xh = yh at *
  have df : decide ((jf : Int) < 0) = false := decide_eq_false (by omega)
  have dg : decide ((jg : Int) < 0) = false := decide_eq_false (by omega)
  have Hof := hide of
  have Hef := hide ef
  clear of ef
  have Hog := hide og
  have Heg := hide eg
  clear og eg
  clear HN HI
  go_wp2_with fail
  refine wp_region_lat (by kernel_rfl) (by kernel_rfl) ?_
  repeat (first | go_big_quiet_step ((first | (go_at_call 12; with_reducible exact calls_lat_same (HF.out _)) | (go_at_call 12; with_reducible exact calls_lat_same (HG.out _)) | (go_at_call 12; with_reducible exact calls_lat_same (HH.out _)))) | quiet_step ((first | (go_at_call 12; with_reducible exact calls_lat_same (HF.out _)) | (go_at_call 12; with_reducible exact calls_lat_same (HG.out _)) | (go_at_call 12; with_reducible exact calls_lat_same (HH.out _)))))
  refine wpQuiet_nil ?_
  intro _ hlat
  obtain ⟨wq, rfl⟩ := hlat
  have HP2 := hide (HP1.out.below (lat_below w1 wq))
  have hx2 := heapB (lat_below w1 wq) HX1.out
  have HX12 := hide hx2
  have HL2 := hide (HL1.out.below (lat_below w1 wq))
  have HX3 := hide (HX2.out.below (lat_below w1 wq))
  have HB2 := hide (below_wide HB1.out (lat_below w1 wq))
  clear HP1 HX1 HL1 HX2 HB1 b1 b2 b3 HF HG HH
  generalize lat w1 wq = w2 at *
  have hd := cell_heap (j := 0) hx2 rfl
  have hdq := lat_cell hd
  clear hx2
  go_wp2_with fail
  simp only [List.append_eq, List.cons_append, List.nil_append]
  refine wp_region_lat (by kernel_rfl) (lex_of (by kernel_rfl) lex7) ?_
  repeat (first | go_big_quiet_step ((fail)) | quiet_step ((fail)))
  refine wpQuiet_nil ?_
  intro _ hlat
  obtain ⟨wp, rfl⟩ := hlat
  have HP3 := hide (HP2.out.below (lat_below w2 wp))
  have hx3 := heapB (lat_below w2 wp) HX12.out
  have HX13 := hide hx3
  have HL3 := hide (HL2.out.below (lat_below w2 wp))
  have HX4 := hide (HX3.out.below (lat_below w2 wp))
  have HB3 := hide (below_wide HB2.out (lat_below w2 wp))
  clear HP2 HX12 HL2 HX3 HB2 hd hdq
  generalize lat w2 wp = w3 at *
  have z0 := cell_heap (j := 0) hx3 rfl
  have z1 := cell_heap (j := 1) hx3 rfl
  have z2 := cell_heap (j := 2) hx3 rfl
  have z3 := cell_heap (j := 3) hx3 rfl
  have z4 := cell_heap (j := 4) hx3 rfl
  have z5 := cell_heap (j := 5) hx3 rfl
  have z6 := cell_heap (j := 6) hx3 rfl
  have z7 := cell_heap (j := 7) hx3 rfl
  have z8 := cell_heap (j := 8) hx3 rfl
  clear hx3
  have HCALL := hide (call4_good (xb := xb) HP3.out HPL.out HL3.out hq HX4.out  af F Hef.out nf ag G Heg.out ng)
  go_wp2_with fail
  refine HCALL.out.mono ?_
  intro e w4 ho
  have hans := HPL.out.answer HL3.out hq ho
  clear ho HCALL z0 z1 z2 z3 z4 z5 z6 z7 z8
  rcases hans with ⟨k4, s4, rfl, L4, T4, P4, hful⟩ | ⟨k4, s4, r, rfl, L4, T4, P4, hok, hr, hcmp⟩
  · have HPF := hide hful
    clear hful
    have HP4 := hide (HP3.out.turn T4 L4.ar)
    have HX14 := hide (T4.heap HX13.out (fp_type HP3.out.ar HX13.out (by decide) (by decide)))
    have HX5 := hide (HX4.out.turn HP3.out T4)
    have HB4 := hide (show Below B w w4 from (HB3.out.mono HBW.out).trans (T4.low HP3.out.fpl (Nat.le_trans HP3.out.lo (Nat.le_of_lt HP3.out.lt))))
    have HL4 := hide L4
    have HPL4 := hide P4
    clear L4 T4 P4 HP3 HX13 HX4 HB3
    have y1 := HP4.out.cell (j := 1) rfl
    go_wp2_with fail
    with_reducible refine (All_t HM.out hn6 false).mono ?_
    rintro e w5 ⟨gno, rfl, hno, hb⟩
    have HP5 := hide (HP4.out.below hb)
    have HX15 := hide (heapB hb HX14.out)
    have HX6 := hide (HX5.out.below hb)
    have HB5 := hide (HB4.out.trans (hb.mono (Nat.le_trans HP4.out.lo (Nat.le_of_lt HP4.out.lt))))
    have HL5 := hide (HL4.out.below hb)
    have HNO := hide hno
    clear hno hb y1 HP4 HX14 HX5 HB4 HL4
    have y1 := HP5.out.cell (j := 1) rfl
    go_wp2_with fail
    with_reducible refine (All_t HM.out hn6 true).mono ?_
    rintro e w6 ⟨gye, rfl, hye, hb⟩
    have HP6 := hide (HP5.out.below hb)
    have HX16 := hide (heapB hb HX15.out)
    have HX7 := hide (HX6.out.below hb)
    have HB6 := hide (HB5.out.trans (hb.mono (Nat.le_trans HP5.out.lo (Nat.le_of_lt HP5.out.lt))))
    have HL6 := hide (HL5.out.below hb)
    have HNO6 := hide (HNO.out.below hb)
    have HYE6 := hide hye
    clear hye hb y1 HP5 HX15 HX6 HB5 HL5 HNO
    have hd6 := cell_heap (j := 0) HX16.out rfl
    have HSX := hide (show Below w6.heap.size w6 w6.drew from (Below.refl _ _).drew)
    obtain ⟨ad, cV, gf, hVt, tcf, hrf⟩ := HP6.out.row HM.out tf
    subst hVt
    have ixf : ((jf : Nat) : Int) < (ts.length : Int) := by omega
    obtain ⟨adg, cVg, gg, hVt, tcg, hrg⟩ := HP6.out.row HM.out tg
    cases hVt
    have ixg : ((jg : Nat) : Int) < (ts.length : Int) := by omega
    have y4 := HP6.out.cell (j := 4) rfl
    have HP7 := hide (HP6.out.below HSX.out)
    have HX8 := hide (HX7.out.below HSX.out)
    have HB7 := hide (HB6.out.trans (HSX.out.mono (Nat.le_trans HP6.out.lo (Nat.le_of_lt HP6.out.lt))))
    have HL7 := hide (HL6.out.below HSX.out)
    have HNO7 := hide (HNO6.out.below HSX.out)
    have HYE7 := hide (HYE6.out.below HSX.out)
    have Rf := hide (hrf.below HSX.out)
    have tqf := fun z => cellB (pin_in (S := Below w6.heap.size w6) HSX.out z) tcf
    have Rg := hide (hrg.below HSX.out)
    have tqg := fun z => cellB (pin_in (S := Below w6.heap.size w6) HSX.out z) tcg
    have q4 := fun z => cellB (pin_in (S := Below w6.heap.size w6) HSX.out z) y4
    clear hrf tcf hrg tcg y4 HP6 HX7 HB6 HL6 HNO6 HYE6
    go_wp2_with fail
    refine wp_region_tree ((Below w6.heap.size w6)) (fun k => ([] : List Nat).contains k) (.take [0, 1, 2, 3, 4, 5, 6, 7, 8, 9, 10, 11, 12, 13, 14, 15, 17, 18, 19, 20, 21, 22, 23] (.step 16 (.step 24 (.take [25] .done)))) (by kernel_rfl) (by kernel_rfl) (by kernel_rfl) (by kernel_rfl) (.take (.cons (.zero) (.cons (.succ (.zero)) (.cons (.succ (.succ (.zero))) (.cons (.succ (.succ (.succ (.zero)))) (.cons (.succ (.succ (.succ (.succ (.zero))))) (.cons (.succ (.succ (.succ (.succ (.succ (.zero)))))) (.cons (.succ (.succ (.succ (.succ (.succ (.succ (.zero))))))) (.cons (.succ (.succ (.succ (.succ (.succ (.succ (.succ (.zero)))))))) (.cons (.succ (.succ (.succ (.succ (.succ (.succ (.succ (.succ (.zero))))))))) (.cons (.succ (.succ (.succ (.succ (.succ (.succ (.succ (.succ (.succ (.zero)))))))))) (.cons (.succ (.succ (.succ (.succ (.succ (.succ (.succ (.succ (.succ (.succ (.zero))))))))))) (.cons (.succ (.succ (.succ (.succ (.succ (.succ (.succ (.succ (.succ (.succ (.succ (.zero)))))))))))) (.cons (.succ (.succ (.succ (.succ (.succ (.succ (.succ (.succ (.succ (.succ (.succ (.succ (.zero))))))))))))) (.cons (.succ (.succ (.succ (.succ (.succ (.succ (.succ (.succ (.succ (.succ (.succ (.succ (.succ (.zero)))))))))))))) (.cons (.succ (.succ (.succ (.succ (.succ (.succ (.succ (.succ (.succ (.succ (.succ (.succ (.succ (.succ (.zero))))))))))))))) (.cons (.succ (.succ (.succ (.succ (.succ (.succ (.succ (.succ (.succ (.succ (.succ (.succ (.succ (.succ (.succ (.zero)))))))))))))))) (.cons (.succ (.succ (.succ (.succ (.succ (.succ (.succ (.succ (.succ (.succ (.succ (.succ (.succ (.succ (.succ (.succ (.succ (.zero)))))))))))))))))) (.cons (.succ (.succ (.succ (.succ (.succ (.succ (.succ (.succ (.succ (.succ (.succ (.succ (.succ (.succ (.succ (.succ (.succ (.succ (.zero))))))))))))))))))) (.cons (.succ (.succ (.succ (.succ (.succ (.succ (.succ (.succ (.succ (.succ (.succ (.succ (.succ (.succ (.succ (.succ (.succ (.succ (.succ (.zero)))))))))))))))))))) (.cons (.succ (.succ (.succ (.succ (.succ (.succ (.succ (.succ (.succ (.succ (.succ (.succ (.succ (.succ (.succ (.succ (.succ (.succ (.succ (.succ (.zero))))))))))))))))))))) (.cons (.succ (.succ (.succ (.succ (.succ (.succ (.succ (.succ (.succ (.succ (.succ (.succ (.succ (.succ (.succ (.succ (.succ (.succ (.succ (.succ (.succ (.zero)))))))))))))))))))))) (.cons (.succ (.succ (.succ (.succ (.succ (.succ (.succ (.succ (.succ (.succ (.succ (.succ (.succ (.succ (.succ (.succ (.succ (.succ (.succ (.succ (.succ (.succ (.zero))))))))))))))))))))))) (.cons (.succ (.succ (.succ (.succ (.succ (.succ (.succ (.succ (.succ (.succ (.succ (.succ (.succ (.succ (.succ (.succ (.succ (.succ (.succ (.succ (.succ (.succ (.succ (.zero)))))))))))))))))))))))) .nil))))))))))))))))))))))) (.step (.succ (.succ (.succ (.succ (.succ (.succ (.succ (.succ (.succ (.succ (.succ (.succ (.succ (.succ (.succ (.succ (.zero))))))))))))))))) rfl (.step (.succ (.succ (.succ (.succ (.succ (.succ (.succ (.succ (.succ (.succ (.succ (.succ (.succ (.succ (.succ (.succ (.succ (.succ (.succ (.succ (.succ (.succ (.succ (.succ (.zero))))))))))))))))))))))))) rfl (.take (.cons (.succ (.succ (.succ (.succ (.succ (.succ (.succ (.succ (.succ (.succ (.succ (.succ (.succ (.succ (.succ (.succ (.succ (.succ (.succ (.succ (.succ (.succ (.succ (.succ (.succ (.zero)))))))))))))))))))))))))) .nil) .done)))) ?hQ ?hS ?_
    case hQ => exact fun _ _ _ _ _ h => h
    case hS => exact HSX.out
    refine wpT_take ?_
    repeat (first | go_big_quiet_step ((fail)) | quiet_step ((fail)))
    refine wpQuiet_nil ?_
    clear tqf tqg q4 hd6
    generalize w6.drew = x6 at *
    refine wpT_step rfl ?_
    intro K1 hK1
    go_wp2_with fail
    with_reducible refine (Ite_t HM.out hn6 Rg.out HNO7.out HYE7.out).mono ?_
    rintro e x7 ⟨gi, rfl, ht, hb⟩
    have HSY := hide (HSX.out.trans (hb.mono HSX.out.size))
    have RI := hide ht
    have HP7b := hide (HP7.out.below hb)
    have HL7b := hide (HL7.out.below hb)
    have HB7b := hide (HB7.out.trans (hb.mono (Nat.le_trans HP7.out.lo (Nat.le_of_lt HP7.out.lt))))
    have Rfb := hide (Rf.out.below hb)
    have Rgb := hide (Rg.out.below hb)
    clear ht hb HP7 HL7 HB7 Rf Rg
    refine hK1.out _ _ (fun _ => pin_mem HSY.out) ?_
    clear hK1
    refine wpT_step rfl ?_
    intro K1 hK1
    go_wp2_with fail
    with_reducible refine (Ite_t HM.out hn6 Rfb.out RI.out Rgb.out).mono ?_
    rintro e w7 ⟨gt, rfl, ht, hb⟩
    have HSZ := hide (HSY.out.trans (hb.mono HSY.out.size))
    have HT7 := hide ht
    have HP8 := hide (HP7b.out.below hb)
    have HL8 := hide (HL7b.out.below hb)
    have HB8 := hide (HB7b.out.trans (hb.mono (Nat.le_trans HP7b.out.lo (Nat.le_of_lt HP7b.out.lt))))
    clear ht hb
    refine hK1.out _ _ (fun _ => pin_mem HSZ.out) ?_
    clear hK1
    refine wpT_take ?_
    repeat (first | go_big_quiet_step ((fail)) | quiet_step ((fail)))
    refine wpQuiet_nil ?_
    refine wpT_done ?_
    go_wp2_with fail
    with_reducible refine (give_full HP8.out HPL4.out HL8.out HM.out HT7.out HPF.out).mono ?_
    intro e w8 ho
    have HO := hide (ho.after HB8.out)
    obtain ⟨he, _⟩ := ho
    subst he
    go_wp2_with fail
    go_ret
    exact HO.out
  · have HPK := hide (And.intro hok (And.intro hr hcmp))
    clear hok hr hcmp
    have HP4 := hide (HP3.out.turn T4 L4.ar)
    have HX14 := hide (T4.heap HX13.out (fp_type HP3.out.ar HX13.out (by decide) (by decide)))
    have HX5 := hide (HX4.out.turn HP3.out T4)
    have HB4 := hide (show Below B w w4 from (HB3.out.mono HBW.out).trans (T4.low HP3.out.fpl (Nat.le_trans HP3.out.lo (Nat.le_of_lt HP3.out.lt))))
    have HL4 := hide L4
    have HPL4 := hide P4
    clear L4 T4 P4 HP3 HX13 HX4 HB3
    have y1 := HP4.out.cell (j := 1) rfl
    go_wp2_with fail
    with_reducible refine (All_t HM.out hn6 false).mono ?_
    rintro e w5 ⟨gno, rfl, hno, hb⟩
    have HP5 := hide (HP4.out.below hb)
    have HX15 := hide (heapB hb HX14.out)
    have HX6 := hide (HX5.out.below hb)
    have HB5 := hide (HB4.out.trans (hb.mono (Nat.le_trans HP4.out.lo (Nat.le_of_lt HP4.out.lt))))
    have HL5 := hide (HL4.out.below hb)
    have HNO := hide hno
    clear hno hb y1 HP4 HX14 HX5 HB4 HL4
    have y1 := HP5.out.cell (j := 1) rfl
    go_wp2_with fail
    with_reducible refine (All_t HM.out hn6 true).mono ?_
    rintro e w6 ⟨gye, rfl, hye, hb⟩
    have HP6 := hide (HP5.out.below hb)
    have HX16 := hide (heapB hb HX15.out)
    have HX7 := hide (HX6.out.below hb)
    have HB6 := hide (HB5.out.trans (hb.mono (Nat.le_trans HP5.out.lo (Nat.le_of_lt HP5.out.lt))))
    have HL6 := hide (HL5.out.below hb)
    have HNO6 := hide (HNO.out.below hb)
    have HYE6 := hide hye
    clear hye hb y1 HP5 HX15 HX6 HB5 HL5 HNO
    have hd6 := cell_heap (j := 0) HX16.out rfl
    have HSX := hide (show Below w6.heap.size w6 w6.drew from (Below.refl _ _).drew)
    obtain ⟨ad, cV, gf, hVt, tcf, hrf⟩ := HP6.out.row HM.out tf
    subst hVt
    have ixf : ((jf : Nat) : Int) < (ts.length : Int) := by omega
    obtain ⟨adg, cVg, gg, hVt, tcg, hrg⟩ := HP6.out.row HM.out tg
    cases hVt
    have ixg : ((jg : Nat) : Int) < (ts.length : Int) := by omega
    have y4 := HP6.out.cell (j := 4) rfl
    have HP7 := hide (HP6.out.below HSX.out)
    have HX8 := hide (HX7.out.below HSX.out)
    have HB7 := hide (HB6.out.trans (HSX.out.mono (Nat.le_trans HP6.out.lo (Nat.le_of_lt HP6.out.lt))))
    have HL7 := hide (HL6.out.below HSX.out)
    have HNO7 := hide (HNO6.out.below HSX.out)
    have HYE7 := hide (HYE6.out.below HSX.out)
    have Rf := hide (hrf.below HSX.out)
    have tqf := fun z => cellB (pin_in (S := Below w6.heap.size w6) HSX.out z) tcf
    have Rg := hide (hrg.below HSX.out)
    have tqg := fun z => cellB (pin_in (S := Below w6.heap.size w6) HSX.out z) tcg
    have q4 := fun z => cellB (pin_in (S := Below w6.heap.size w6) HSX.out z) y4
    clear hrf tcf hrg tcg y4 HP6 HX7 HB6 HL6 HNO6 HYE6
    go_wp2_with fail
    refine wp_region_tree ((Below w6.heap.size w6)) (fun k => ([] : List Nat).contains k) (.take [0, 1, 2, 3, 4, 5, 6, 7, 8, 9, 10, 11, 12, 13, 14, 15, 17, 18, 19, 20, 21, 22, 23] (.step 16 (.step 24 (.take [25] .done)))) (by kernel_rfl) (by kernel_rfl) (by kernel_rfl) (by kernel_rfl) (.take (.cons (.zero) (.cons (.succ (.zero)) (.cons (.succ (.succ (.zero))) (.cons (.succ (.succ (.succ (.zero)))) (.cons (.succ (.succ (.succ (.succ (.zero))))) (.cons (.succ (.succ (.succ (.succ (.succ (.zero)))))) (.cons (.succ (.succ (.succ (.succ (.succ (.succ (.zero))))))) (.cons (.succ (.succ (.succ (.succ (.succ (.succ (.succ (.zero)))))))) (.cons (.succ (.succ (.succ (.succ (.succ (.succ (.succ (.succ (.zero))))))))) (.cons (.succ (.succ (.succ (.succ (.succ (.succ (.succ (.succ (.succ (.zero)))))))))) (.cons (.succ (.succ (.succ (.succ (.succ (.succ (.succ (.succ (.succ (.succ (.zero))))))))))) (.cons (.succ (.succ (.succ (.succ (.succ (.succ (.succ (.succ (.succ (.succ (.succ (.zero)))))))))))) (.cons (.succ (.succ (.succ (.succ (.succ (.succ (.succ (.succ (.succ (.succ (.succ (.succ (.zero))))))))))))) (.cons (.succ (.succ (.succ (.succ (.succ (.succ (.succ (.succ (.succ (.succ (.succ (.succ (.succ (.zero)))))))))))))) (.cons (.succ (.succ (.succ (.succ (.succ (.succ (.succ (.succ (.succ (.succ (.succ (.succ (.succ (.succ (.zero))))))))))))))) (.cons (.succ (.succ (.succ (.succ (.succ (.succ (.succ (.succ (.succ (.succ (.succ (.succ (.succ (.succ (.succ (.zero)))))))))))))))) (.cons (.succ (.succ (.succ (.succ (.succ (.succ (.succ (.succ (.succ (.succ (.succ (.succ (.succ (.succ (.succ (.succ (.succ (.zero)))))))))))))))))) (.cons (.succ (.succ (.succ (.succ (.succ (.succ (.succ (.succ (.succ (.succ (.succ (.succ (.succ (.succ (.succ (.succ (.succ (.succ (.zero))))))))))))))))))) (.cons (.succ (.succ (.succ (.succ (.succ (.succ (.succ (.succ (.succ (.succ (.succ (.succ (.succ (.succ (.succ (.succ (.succ (.succ (.succ (.zero)))))))))))))))))))) (.cons (.succ (.succ (.succ (.succ (.succ (.succ (.succ (.succ (.succ (.succ (.succ (.succ (.succ (.succ (.succ (.succ (.succ (.succ (.succ (.succ (.zero))))))))))))))))))))) (.cons (.succ (.succ (.succ (.succ (.succ (.succ (.succ (.succ (.succ (.succ (.succ (.succ (.succ (.succ (.succ (.succ (.succ (.succ (.succ (.succ (.succ (.zero)))))))))))))))))))))) (.cons (.succ (.succ (.succ (.succ (.succ (.succ (.succ (.succ (.succ (.succ (.succ (.succ (.succ (.succ (.succ (.succ (.succ (.succ (.succ (.succ (.succ (.succ (.zero))))))))))))))))))))))) (.cons (.succ (.succ (.succ (.succ (.succ (.succ (.succ (.succ (.succ (.succ (.succ (.succ (.succ (.succ (.succ (.succ (.succ (.succ (.succ (.succ (.succ (.succ (.succ (.zero)))))))))))))))))))))))) .nil))))))))))))))))))))))) (.step (.succ (.succ (.succ (.succ (.succ (.succ (.succ (.succ (.succ (.succ (.succ (.succ (.succ (.succ (.succ (.succ (.zero))))))))))))))))) rfl (.step (.succ (.succ (.succ (.succ (.succ (.succ (.succ (.succ (.succ (.succ (.succ (.succ (.succ (.succ (.succ (.succ (.succ (.succ (.succ (.succ (.succ (.succ (.succ (.succ (.zero))))))))))))))))))))))))) rfl (.take (.cons (.succ (.succ (.succ (.succ (.succ (.succ (.succ (.succ (.succ (.succ (.succ (.succ (.succ (.succ (.succ (.succ (.succ (.succ (.succ (.succ (.succ (.succ (.succ (.succ (.succ (.zero)))))))))))))))))))))))))) .nil) .done)))) ?hQ ?hS ?_
    case hQ => exact fun _ _ _ _ _ h => h
    case hS => exact HSX.out
    refine wpT_take ?_
    repeat (first | go_big_quiet_step ((fail)) | quiet_step ((fail)))
    refine wpQuiet_nil ?_
    clear tqf tqg q4 hd6
    generalize w6.drew = x6 at *
    refine wpT_step rfl ?_
    intro K1 hK1
    go_wp2_with fail
    with_reducible refine (Ite_t HM.out hn6 Rg.out HNO7.out HYE7.out).mono ?_
    rintro e x7 ⟨gi, rfl, ht, hb⟩
    have HSY := hide (HSX.out.trans (hb.mono HSX.out.size))
    have RI := hide ht
    have HP7b := hide (HP7.out.below hb)
    have HL7b := hide (HL7.out.below hb)
    have HB7b := hide (HB7.out.trans (hb.mono (Nat.le_trans HP7.out.lo (Nat.le_of_lt HP7.out.lt))))
    have Rfb := hide (Rf.out.below hb)
    have Rgb := hide (Rg.out.below hb)
    clear ht hb HP7 HL7 HB7 Rf Rg
    refine hK1.out _ _ (fun _ => pin_mem HSY.out) ?_
    clear hK1
    refine wpT_step rfl ?_
    intro K1 hK1
    go_wp2_with fail
    with_reducible refine (Ite_t HM.out hn6 Rfb.out RI.out Rgb.out).mono ?_
    rintro e w7 ⟨gt, rfl, ht, hb⟩
    have HSZ := hide (HSY.out.trans (hb.mono HSY.out.size))
    have HT7 := hide ht
    have HP8 := hide (HP7b.out.below hb)
    have HL8 := hide (HL7b.out.below hb)
    have HB8 := hide (HB7b.out.trans (hb.mono (Nat.le_trans HP7b.out.lo (Nat.le_of_lt HP7b.out.lt))))
    clear ht hb
    refine hK1.out _ _ (fun _ => pin_mem HSZ.out) ?_
    clear hK1
    refine wpT_take ?_
    repeat (first | go_big_quiet_step ((fail)) | quiet_step ((fail)))
    refine wpQuiet_nil ?_
    refine wpT_done ?_
    go_wp2_with fail
    with_reducible refine (give_ok HP8.out HPL.out HL3.out hq HPL4.out HL8.out HM.out HT7.out HPK.out.1 HPK.out.2.1 HPK.out.2.2).mono ?_
    intro e w8 ho
    have HO := hide (ho.after HB8.out)
    obtain ⟨he, _⟩ := ho
    subst he
    go_wp2_with fail
    go_ret
    exact HO.out
set_option maxHeartbeats 16000000 in
set_option maxRecDepth 100000 in
theorem makes4_bad (h : PlM D B w pp k s n ms ns Vn ts vs Vt Hs Vh) (P : Pl s n ms q Fs ns ts Hs) (L : Live w k s) (hq : q ≤ 60) (X : ActM B w xf xg xh xi A1 c1 l1 A2 c2 l2 A3 c3 l3) (hbad : xf < 0 ∨ xg < 0) :
    Calls Tryz.prog 9 #[.pointer (some ⟨pp, 0, none⟩), .agg (actC 4 xf xg xh xi xb A1 l1.length c1 A2 l2.length c2 A3 l3.length c3)] w (MkOut D B pp n ms q w) := by
  have HBW := hide (Nat.le_trans h.lo (Nat.le_of_lt h.lt))
  have HBAD := hide hbad
  obtain ⟨jf, hjf⟩ : ∃ j : Int, ofP ns.length xf = j := ⟨_, rfl⟩
  have sf := of_sign (m := ns.length) (x := xf)
  rw [hjf] at sf
  have Hof := hide hjf
  obtain ⟨jg, hjg⟩ : ∃ j : Int, ofP ns.length xg = j := ⟨_, rfl⟩
  have sg := of_sign (m := ns.length) (x := xg)
  rw [hjg] at sg
  have Hog := hide hjg
  have HW : (decide (jf < 0) = true) ∨ (decide (jf < 0) = false ∧ decide (jg < 0) = true) := by
    have hb' := hbad
    rw [show (xf < 0) = (decide (jf < 0) = true) from propext (sf.symm.trans decide_eq_true_iff.symm)] at hb'
    rw [show (xg < 0) = (decide (jg < 0) = true) from propext (sg.symm.trans decide_eq_true_iff.symm)] at hb'
    revert hb'
    generalize decide (jf < 0) = v0
    generalize decide (jg < 0) = v1
    clear HBAD hbad h P L hq X
    cases v0 <;> cases v1 <;> simp
  clear hbad sf hjf sg hjg
  have hbx := bel_one w (.cells #[.int .u8 4, .int .i64 xf, .int .i64 xg, .int .i64 xh, .int .i64 xi, .bool xb, .slice A1 l1.length c1, .slice A2 l2.length c2, .slice A3 l3.length c3] 39)
  have HP1 := hide (h.below hbx)
  have hx0 := heap_new w (.cells #[.int .u8 4, .int .i64 xf, .int .i64 xg, .int .i64 xh, .int .i64 xi, .bool xb, .slice A1 l1.length c1, .slice A2 l2.length c2, .slice A3 l3.length c3] 39)
  have HX1 := hide hx0
  have HL1 := hide (L.below hbx)
  have HX2 := hide (X.below hbx)
  have HB1 := hide hbx
  have HN := hide (fun (v : Int) (hv : I64 v) (z : World) (hz : PlM D B z pp k s n ms ns Vn ts vs Vt Hs Vh) => of_any hz P.two (by have := P.sm; omega) v hv)
  have HPL := hide P
  have HI := hide (And.intro X.f (And.intro X.g (And.intro X.h X.i)))
  clear h X L hbx hx0 P
  go_enter Tryz.func9, Tryz.ntmps9
  go_upto_region 1 with fail
  generalize w.alloc (.cells #[.int .u8 4, .int .i64 xf, .int .i64 xg, .int .i64 xh, .int .i64 xi, .bool xb, .slice A1 l1.length c1, .slice A2 l2.length c2, .slice A3 l3.length c3] 39) = w1 at *
  have b1 := lat_cell (cell_heap (j := 1) HX1.out rfl)
  have b2 := lat_cell (cell_heap (j := 2) HX1.out rfl)
  have b3 := lat_cell (cell_heap (j := 3) HX1.out rfl)
  have HF := hide (fun z => HN.out xf HI.out.1 (lat w1 z) (HP1.out.below (lat_below w1 z)))
  have HG := hide (fun z => HN.out xg HI.out.2.1 (lat w1 z) (HP1.out.below (lat_below w1 z)))
  have HH := hide (fun z => HN.out xh HI.out.2.2.1 (lat w1 z) (HP1.out.below (lat_below w1 z)))
  rw [Hof.out] at HF
  rw [Hog.out] at HG
  generalize ofP ns.length xh = yh at *
  rcases HW with e0 | ⟨e0, e1⟩
  all_goals (
    clear HN HI
    go_wp2_with fail
    refine wp_region_lat (by kernel_rfl) (by kernel_rfl) ?_
    repeat (first | go_big_quiet_step ((first | (go_at_call 12; with_reducible exact calls_lat_same (HF.out _)) | (go_at_call 12; with_reducible exact calls_lat_same (HG.out _)) | (go_at_call 12; with_reducible exact calls_lat_same (HH.out _)))) | quiet_step ((first | (go_at_call 12; with_reducible exact calls_lat_same (HF.out _)) | (go_at_call 12; with_reducible exact calls_lat_same (HG.out _)) | (go_at_call 12; with_reducible exact calls_lat_same (HH.out _)))))
    refine wpQuiet_nil ?_
    intro _ hlat
    obtain ⟨wq, rfl⟩ := hlat
    have HP2 := hide (HP1.out.below (lat_below w1 wq))
    have hx2 := heapB (lat_below w1 wq) HX1.out
    have HX12 := hide hx2
    have HL2 := hide (HL1.out.below (lat_below w1 wq))
    have HX3 := hide (HX2.out.below (lat_below w1 wq))
    have HB2 := hide (below_wide HB1.out (lat_below w1 wq))
    clear HP1 HX1 HL1 HX2 HB1 b1 b2 b3 HF HG HH
    generalize lat w1 wq = w2 at *
    have hd := cell_heap (j := 0) hx2 rfl
    have hdq := lat_cell hd
    clear hx2
    go_wp2_with fail
    simp only [List.append_eq, List.cons_append, List.nil_append]
    refine wp_region_lat (by kernel_rfl) (lex_of (by kernel_rfl) lex7) ?_
    repeat (first | go_big_quiet_step ((fail)) | quiet_step ((fail)))
    refine wpQuiet_nil ?_
    intro _ hlat
    obtain ⟨wp, rfl⟩ := hlat
    have HP3 := hide (HP2.out.below (lat_below w2 wp))
    have hx3 := heapB (lat_below w2 wp) HX12.out
    have HX13 := hide hx3
    have HL3 := hide (HL2.out.below (lat_below w2 wp))
    have HX4 := hide (HX3.out.below (lat_below w2 wp))
    have HB3 := hide (below_wide HB2.out (lat_below w2 wp))
    clear HP2 HX12 HL2 HX3 HB2 hd hdq
    generalize lat w2 wp = w3 at *
    have z0 := cell_heap (j := 0) hx3 rfl
    have z1 := cell_heap (j := 1) hx3 rfl
    have z2 := cell_heap (j := 2) hx3 rfl
    have z3 := cell_heap (j := 3) hx3 rfl
    have z4 := cell_heap (j := 4) hx3 rfl
    have z5 := cell_heap (j := 5) hx3 rfl
    have z6 := cell_heap (j := 6) hx3 rfl
    have z7 := cell_heap (j := 7) hx3 rfl
    have z8 := cell_heap (j := 8) hx3 rfl
    clear hx3
    have HCALL := hide (call4_bad (xb := xb) HP3.out HPL.out HL3.out hq HX4.out HBAD.out)
    go_wp2_with fail
    refine HCALL.out.mono ?_
    rintro e w4 ⟨rfl, hb⟩
    have HP4 := hide (HP3.out.below hb)
    have HL4 := hide (HL3.out.below hb)
    have HB4 := hide ((below_wide HB3.out hb).mono HBW.out)
    clear hb HCALL z0 z1 z2 z3 z4 z5 z6 z7 z8
    go_wp2_with fail
    with_reducible refine (give_no HP4.out HPL.out HL4.out _).mono ?_
    intro e w5 ho
    have HO := hide (ho.after HB4.out)
    obtain ⟨he, _⟩ := ho
    subst he
    go_wp2_with fail
    go_ret
    exact HO.out)
end
end Go.Proofs.YtgfjdkkfgclhjaaGreat.Bd
/- makes, walked for acts of kind 5 (printed by gen_ey.py). -/
namespace Go.Proofs.YtgfjdkkfgclhjaaGreat.Bd
open Go.RowKit Go.Proofs.YtgfjdkkfgclhjaaGreat Go.Proofs.YtgfjdkkfgclhjaaGreat.Lx Go.Maps

section
variable {D : Nat → Array Value → TypeId → Prop} {B : Nat} {w w' : World} {pp : Nat} {k : Blk} {s : St} {n ms q : Nat} {ns : List Nat} {Vn : Value} {ts : List Tb} {vs : List Value} {Vt : Value} {Hs : List Tb} {Vh : Value} {Fs : List (Env → Bool)} {xf xg xh xi : Int} {xb : Bool} {A1 A2 A3 : Option Addr} {c1 c2 c3 : Nat} {l1 l2 : List Int} {l3 : List Bool}
set_option maxHeartbeats 16000000 in
set_option maxRecDepth 100000 in
theorem makes5_good (h : PlM D B w pp k s n ms ns Vn ts vs Vt Hs Vh) (P : Pl s n ms q Fs ns ts Hs) (L : Live w k s) (hq : q ≤ 60) (X : ActM B w xf xg xh xi A1 c1 l1 A2 c2 l2 A3 c3 l3) (m : Nat) (hm : m = 2 ^ n) (af jf : Nat) (F : Env → Bool) (ef : nodeP ns xf = (af : Int)) (of : ofP ns.length xf = (jf : Int)) (uf : jf < ts.length) (tf : ts[jf]? = some (tab n F)) (nf : Nod s af (lowV n) F) (ag jg : Nat) (G : Env → Bool) (eg : nodeP ns xg = (ag : Int)) (og : ofP ns.length xg = (jg : Int)) (ug : jg < ts.length) (tg : ts[jg]? = some (tab n G)) (ng : Nod s ag (lowV n) G) (ah jh : Nat) (H : Env → Bool) (eh : nodeP ns xh = (ah : Int)) (oh : ofP ns.length xh = (jh : Int)) (uh : jh < ts.length) (th : ts[jh]? = some (tab n H)) (nh : Nod s ah (lowV n) H) :
    Calls Tryz.prog 9 #[.pointer (some ⟨pp, 0, none⟩), .agg (actC 5 xf xg xh xi xb A1 l1.length c1 A2 l2.length c2 A3 l3.length c3)] w (MkOut D B pp n ms q w) := by
  have HM := hide hm
  have HBW := hide (Nat.le_trans h.lo (Nat.le_of_lt h.lt))
  have hn6 := P.n6
  clear hm
  have hbx := bel_one w (.cells #[.int .u8 5, .int .i64 xf, .int .i64 xg, .int .i64 xh, .int .i64 xi, .bool xb, .slice A1 l1.length c1, .slice A2 l2.length c2, .slice A3 l3.length c3] 39)
  have HP1 := hide (h.below hbx)
  have hx0 := heap_new w (.cells #[.int .u8 5, .int .i64 xf, .int .i64 xg, .int .i64 xh, .int .i64 xi, .bool xb, .slice A1 l1.length c1, .slice A2 l2.length c2, .slice A3 l3.length c3] 39)
  have HX1 := hide hx0
  have HL1 := hide (L.below hbx)
  have HX2 := hide (X.below hbx)
  have HB1 := hide hbx
  have HN := hide (fun (v : Int) (hv : I64 v) (z : World) (hz : PlM D B z pp k s n ms ns Vn ts vs Vt Hs Vh) => of_any hz P.two (by have := P.sm; omega) v hv)
  have HPL := hide P
  have HI := hide (And.intro X.f (And.intro X.g (And.intro X.h X.i)))
  clear h X L hbx hx0 P
  go_enter Tryz.func9, Tryz.ntmps9
  go_upto_region 1 with fail
  generalize w.alloc (.cells #[.int .u8 5, .int .i64 xf, .int .i64 xg, .int .i64 xh, .int .i64 xi, .bool xb, .slice A1 l1.length c1, .slice A2 l2.length c2, .slice A3 l3.length c3] 39) = w1 at *
  have b1 := lat_cell (cell_heap (j := 1) HX1.out rfl)
  have b2 := lat_cell (cell_heap (j := 2) HX1.out rfl)
  have b3 := lat_cell (cell_heap (j := 3) HX1.out rfl)
  have HF := hide (fun z => HN.out xf HI.out.1 (lat w1 z) (HP1.out.below (lat_below w1 z)))
  have HG := hide (fun z => HN.out xg HI.out.2.1 (lat w1 z) (HP1.out.below (lat_below w1 z)))
  have HH := hide (fun z => HN.out xh HI.out.2.2.1 (lat w1 z) (HP1.out.below (lat_below w1 z)))
  rw [of] at HF
  rw [og] at HG
  rw [oh] at HH
  have df : decide ((jf : Int) < 0) = false := decide_eq_false (by omega)
  have dg : decide ((jg : Int) < 0) = false := decide_eq_false (by omega)
  have dh : decide ((jh : Int) < 0) = false := decide_eq_false (by omega)
  have Hof := hide of
  have Hef := hide ef
  clear of ef
  have Hog := hide og
  have Heg := hide eg
  clear og eg
  have Hoh := hide oh
  have Heh := hide eh
  clear oh eh
  clear HN HI
  go_wp2_with fail
  refine wp_region_lat (by kernel_rfl) (by kernel_rfl) ?_
  repeat (first | go_big_quiet_step ((first | (go_at_call 12; with_reducible exact calls_lat_same (HF.out _)) | (go_at_call 12; with_reducible exact calls_lat_same (HG.out _)) | (go_at_call 12; with_reducible exact calls_lat_same (HH.out _)))) | quiet_step ((first | (go_at_call 12; with_reducible exact calls_lat_same (HF.out _)) | (go_at_call 12; with_reducible exact calls_lat_same (HG.out _)) | (go_at_call 12; with_reducible exact calls_lat_same (HH.out _)))))
  refine wpQuiet_nil ?_
  intro _ hlat
  obtain ⟨wq, rfl⟩ := hlat
  have HP2 := hide (HP1.out.below (lat_below w1 wq))
  have hx2 := heapB (lat_below w1 wq) HX1.out
  have HX12 := hide hx2
  have HL2 := hide (HL1.out.below (lat_below w1 wq))
  have HX3 := hide (HX2.out.below (lat_below w1 wq))
  have HB2 := hide (below_wide HB1.out (lat_below w1 wq))
  clear HP1 HX1 HL1 HX2 HB1 b1 b2 b3 HF HG HH
  generalize lat w1 wq = w2 at *
  have hd := cell_heap (j := 0) hx2 rfl
  have hdq := lat_cell hd
  clear hx2
  go_wp2_with fail
  simp only [List.append_eq, List.cons_append, List.nil_append]
  refine wp_region_lat (by kernel_rfl) (lex_of (by kernel_rfl) lex7) ?_
  repeat (first | go_big_quiet_step ((fail)) | quiet_step ((fail)))
  refine wpQuiet_nil ?_
  intro _ hlat
  obtain ⟨wp, rfl⟩ := hlat
  have HP3 := hide (HP2.out.below (lat_below w2 wp))
  have hx3 := heapB (lat_below w2 wp) HX12.out
  have HX13 := hide hx3
  have HL3 := hide (HL2.out.below (lat_below w2 wp))
  have HX4 := hide (HX3.out.below (lat_below w2 wp))
  have HB3 := hide (below_wide HB2.out (lat_below w2 wp))
  clear HP2 HX12 HL2 HX3 HB2 hd hdq
  generalize lat w2 wp = w3 at *
  have z0 := cell_heap (j := 0) hx3 rfl
  have z1 := cell_heap (j := 1) hx3 rfl
  have z2 := cell_heap (j := 2) hx3 rfl
  have z3 := cell_heap (j := 3) hx3 rfl
  have z4 := cell_heap (j := 4) hx3 rfl
  have z5 := cell_heap (j := 5) hx3 rfl
  have z6 := cell_heap (j := 6) hx3 rfl
  have z7 := cell_heap (j := 7) hx3 rfl
  have z8 := cell_heap (j := 8) hx3 rfl
  clear hx3
  have HCALL := hide (call5_good (xb := xb) HP3.out HPL.out HL3.out hq HX4.out  af F Hef.out nf ag G Heg.out ng ah H Heh.out nh)
  go_wp2_with fail
  refine HCALL.out.mono ?_
  intro e w4 ho
  have hans := HPL.out.answer HL3.out hq ho
  clear ho HCALL z0 z1 z2 z3 z4 z5 z6 z7 z8
  rcases hans with ⟨k4, s4, rfl, L4, T4, P4, hful⟩ | ⟨k4, s4, r, rfl, L4, T4, P4, hok, hr, hcmp⟩
  · have HPF := hide hful
    clear hful
    have HP4 := hide (HP3.out.turn T4 L4.ar)
    have HX14 := hide (T4.heap HX13.out (fp_type HP3.out.ar HX13.out (by decide) (by decide)))
    have HX5 := hide (HX4.out.turn HP3.out T4)
    have HB4 := hide (show Below B w w4 from (HB3.out.mono HBW.out).trans (T4.low HP3.out.fpl (Nat.le_trans HP3.out.lo (Nat.le_of_lt HP3.out.lt))))
    have HL4 := hide L4
    have HPL4 := hide P4
    clear L4 T4 P4 HP3 HX13 HX4 HB3
    have y1 := HP4.out.cell (j := 1) rfl
    go_wp2_with fail
    with_reducible refine (All_t HM.out hn6 false).mono ?_
    rintro e w5 ⟨gno, rfl, hno, hb⟩
    have HP5 := hide (HP4.out.below hb)
    have HX15 := hide (heapB hb HX14.out)
    have HX6 := hide (HX5.out.below hb)
    have HB5 := hide (HB4.out.trans (hb.mono (Nat.le_trans HP4.out.lo (Nat.le_of_lt HP4.out.lt))))
    have HL5 := hide (HL4.out.below hb)
    have HNO := hide hno
    clear hno hb y1 HP4 HX14 HX5 HB4 HL4
    have y1 := HP5.out.cell (j := 1) rfl
    go_wp2_with fail
    with_reducible refine (All_t HM.out hn6 true).mono ?_
    rintro e w6 ⟨gye, rfl, hye, hb⟩
    have HP6 := hide (HP5.out.below hb)
    have HX16 := hide (heapB hb HX15.out)
    have HX7 := hide (HX6.out.below hb)
    have HB6 := hide (HB5.out.trans (hb.mono (Nat.le_trans HP5.out.lo (Nat.le_of_lt HP5.out.lt))))
    have HL6 := hide (HL5.out.below hb)
    have HNO6 := hide (HNO.out.below hb)
    have HYE6 := hide hye
    clear hye hb y1 HP5 HX15 HX6 HB5 HL5 HNO
    have hd6 := cell_heap (j := 0) HX16.out rfl
    have HSX := hide (show Below w6.heap.size w6 w6.drew from (Below.refl _ _).drew)
    obtain ⟨ad, cV, gf, hVt, tcf, hrf⟩ := HP6.out.row HM.out tf
    subst hVt
    have ixf : ((jf : Nat) : Int) < (ts.length : Int) := by omega
    obtain ⟨adg, cVg, gg, hVt, tcg, hrg⟩ := HP6.out.row HM.out tg
    cases hVt
    have ixg : ((jg : Nat) : Int) < (ts.length : Int) := by omega
    obtain ⟨adh, cVh, gh, hVt, tch, hrh⟩ := HP6.out.row HM.out th
    cases hVt
    have ixh : ((jh : Nat) : Int) < (ts.length : Int) := by omega
    have y4 := HP6.out.cell (j := 4) rfl
    have HP7 := hide (HP6.out.below HSX.out)
    have HX8 := hide (HX7.out.below HSX.out)
    have HB7 := hide (HB6.out.trans (HSX.out.mono (Nat.le_trans HP6.out.lo (Nat.le_of_lt HP6.out.lt))))
    have HL7 := hide (HL6.out.below HSX.out)
    have HNO7 := hide (HNO6.out.below HSX.out)
    have HYE7 := hide (HYE6.out.below HSX.out)
    have Rf := hide (hrf.below HSX.out)
    have tqf := fun z => cellB (pin_in (S := Below w6.heap.size w6) HSX.out z) tcf
    have Rg := hide (hrg.below HSX.out)
    have tqg := fun z => cellB (pin_in (S := Below w6.heap.size w6) HSX.out z) tcg
    have Rh := hide (hrh.below HSX.out)
    have tqh := fun z => cellB (pin_in (S := Below w6.heap.size w6) HSX.out z) tch
    have q4 := fun z => cellB (pin_in (S := Below w6.heap.size w6) HSX.out z) y4
    clear hrf tcf hrg tcg hrh tch y4 HP6 HX7 HB6 HL6 HNO6 HYE6
    go_wp2_with fail
    refine wp_region_tree ((Below w6.heap.size w6)) (fun k => ([] : List Nat).contains k) (.take [0, 1, 2, 3, 4, 5, 6, 7, 8, 9, 10, 11, 12, 13, 14, 15, 16, 17, 18, 19, 20] (.step 21 (.take [22] .done))) (by kernel_rfl) (by kernel_rfl) (by kernel_rfl) (by kernel_rfl) (.take (.cons (.zero) (.cons (.succ (.zero)) (.cons (.succ (.succ (.zero))) (.cons (.succ (.succ (.succ (.zero)))) (.cons (.succ (.succ (.succ (.succ (.zero))))) (.cons (.succ (.succ (.succ (.succ (.succ (.zero)))))) (.cons (.succ (.succ (.succ (.succ (.succ (.succ (.zero))))))) (.cons (.succ (.succ (.succ (.succ (.succ (.succ (.succ (.zero)))))))) (.cons (.succ (.succ (.succ (.succ (.succ (.succ (.succ (.succ (.zero))))))))) (.cons (.succ (.succ (.succ (.succ (.succ (.succ (.succ (.succ (.succ (.zero)))))))))) (.cons (.succ (.succ (.succ (.succ (.succ (.succ (.succ (.succ (.succ (.succ (.zero))))))))))) (.cons (.succ (.succ (.succ (.succ (.succ (.succ (.succ (.succ (.succ (.succ (.succ (.zero)))))))))))) (.cons (.succ (.succ (.succ (.succ (.succ (.succ (.succ (.succ (.succ (.succ (.succ (.succ (.zero))))))))))))) (.cons (.succ (.succ (.succ (.succ (.succ (.succ (.succ (.succ (.succ (.succ (.succ (.succ (.succ (.zero)))))))))))))) (.cons (.succ (.succ (.succ (.succ (.succ (.succ (.succ (.succ (.succ (.succ (.succ (.succ (.succ (.succ (.zero))))))))))))))) (.cons (.succ (.succ (.succ (.succ (.succ (.succ (.succ (.succ (.succ (.succ (.succ (.succ (.succ (.succ (.succ (.zero)))))))))))))))) (.cons (.succ (.succ (.succ (.succ (.succ (.succ (.succ (.succ (.succ (.succ (.succ (.succ (.succ (.succ (.succ (.succ (.zero))))))))))))))))) (.cons (.succ (.succ (.succ (.succ (.succ (.succ (.succ (.succ (.succ (.succ (.succ (.succ (.succ (.succ (.succ (.succ (.succ (.zero)))))))))))))))))) (.cons (.succ (.succ (.succ (.succ (.succ (.succ (.succ (.succ (.succ (.succ (.succ (.succ (.succ (.succ (.succ (.succ (.succ (.succ (.zero))))))))))))))))))) (.cons (.succ (.succ (.succ (.succ (.succ (.succ (.succ (.succ (.succ (.succ (.succ (.succ (.succ (.succ (.succ (.succ (.succ (.succ (.succ (.zero)))))))))))))))))))) (.cons (.succ (.succ (.succ (.succ (.succ (.succ (.succ (.succ (.succ (.succ (.succ (.succ (.succ (.succ (.succ (.succ (.succ (.succ (.succ (.succ (.zero))))))))))))))))))))) .nil))))))))))))))))))))) (.step (.succ (.succ (.succ (.succ (.succ (.succ (.succ (.succ (.succ (.succ (.succ (.succ (.succ (.succ (.succ (.succ (.succ (.succ (.succ (.succ (.succ (.zero)))))))))))))))))))))) rfl (.take (.cons (.succ (.succ (.succ (.succ (.succ (.succ (.succ (.succ (.succ (.succ (.succ (.succ (.succ (.succ (.succ (.succ (.succ (.succ (.succ (.succ (.succ (.succ (.zero))))))))))))))))))))))) .nil) .done))) ?hQ ?hS ?_
    case hQ => exact fun _ _ _ _ _ h => h
    case hS => exact HSX.out
    refine wpT_take ?_
    repeat (first | go_big_quiet_step ((fail)) | quiet_step ((fail)))
    refine wpQuiet_nil ?_
    clear tqf tqg tqh q4 hd6
    generalize w6.drew = x6 at *
    refine wpT_step rfl ?_
    intro K1 hK1
    go_wp2_with fail
    with_reducible refine (Ite_t HM.out hn6 Rf.out Rg.out Rh.out).mono ?_
    rintro e w7 ⟨gt, rfl, ht, hb⟩
    have HSZ := hide (HSX.out.trans (hb.mono HSX.out.size))
    have HT7 := hide ht
    have HP8 := hide (HP7.out.below hb)
    have HL8 := hide (HL7.out.below hb)
    have HB8 := hide (HB7.out.trans (hb.mono (Nat.le_trans HP7.out.lo (Nat.le_of_lt HP7.out.lt))))
    clear ht hb
    refine hK1.out _ _ (fun _ => pin_mem HSZ.out) ?_
    clear hK1
    refine wpT_take ?_
    repeat (first | go_big_quiet_step ((fail)) | quiet_step ((fail)))
    refine wpQuiet_nil ?_
    refine wpT_done ?_
    go_wp2_with fail
    with_reducible refine (give_full HP8.out HPL4.out HL8.out HM.out HT7.out HPF.out).mono ?_
    intro e w8 ho
    have HO := hide (ho.after HB8.out)
    obtain ⟨he, _⟩ := ho
    subst he
    go_wp2_with fail
    go_ret
    exact HO.out
  · have HPK := hide (And.intro hok (And.intro hr hcmp))
    clear hok hr hcmp
    have HP4 := hide (HP3.out.turn T4 L4.ar)
    have HX14 := hide (T4.heap HX13.out (fp_type HP3.out.ar HX13.out (by decide) (by decide)))
    have HX5 := hide (HX4.out.turn HP3.out T4)
    have HB4 := hide (show Below B w w4 from (HB3.out.mono HBW.out).trans (T4.low HP3.out.fpl (Nat.le_trans HP3.out.lo (Nat.le_of_lt HP3.out.lt))))
    have HL4 := hide L4
    have HPL4 := hide P4
    clear L4 T4 P4 HP3 HX13 HX4 HB3
    have y1 := HP4.out.cell (j := 1) rfl
    go_wp2_with fail
    with_reducible refine (All_t HM.out hn6 false).mono ?_
    rintro e w5 ⟨gno, rfl, hno, hb⟩
    have HP5 := hide (HP4.out.below hb)
    have HX15 := hide (heapB hb HX14.out)
    have HX6 := hide (HX5.out.below hb)
    have HB5 := hide (HB4.out.trans (hb.mono (Nat.le_trans HP4.out.lo (Nat.le_of_lt HP4.out.lt))))
    have HL5 := hide (HL4.out.below hb)
    have HNO := hide hno
    clear hno hb y1 HP4 HX14 HX5 HB4 HL4
    have y1 := HP5.out.cell (j := 1) rfl
    go_wp2_with fail
    with_reducible refine (All_t HM.out hn6 true).mono ?_
    rintro e w6 ⟨gye, rfl, hye, hb⟩
    have HP6 := hide (HP5.out.below hb)
    have HX16 := hide (heapB hb HX15.out)
    have HX7 := hide (HX6.out.below hb)
    have HB6 := hide (HB5.out.trans (hb.mono (Nat.le_trans HP5.out.lo (Nat.le_of_lt HP5.out.lt))))
    have HL6 := hide (HL5.out.below hb)
    have HNO6 := hide (HNO.out.below hb)
    have HYE6 := hide hye
    clear hye hb y1 HP5 HX15 HX6 HB5 HL5 HNO
    have hd6 := cell_heap (j := 0) HX16.out rfl
    have HSX := hide (show Below w6.heap.size w6 w6.drew from (Below.refl _ _).drew)
    obtain ⟨ad, cV, gf, hVt, tcf, hrf⟩ := HP6.out.row HM.out tf
    subst hVt
    have ixf : ((jf : Nat) : Int) < (ts.length : Int) := by omega
    obtain ⟨adg, cVg, gg, hVt, tcg, hrg⟩ := HP6.out.row HM.out tg
    cases hVt
    have ixg : ((jg : Nat) : Int) < (ts.length : Int) := by omega
    obtain ⟨adh, cVh, gh, hVt, tch, hrh⟩ := HP6.out.row HM.out th
    cases hVt
    have ixh : ((jh : Nat) : Int) < (ts.length : Int) := by omega
    have y4 := HP6.out.cell (j := 4) rfl
    have HP7 := hide (HP6.out.below HSX.out)
    have HX8 := hide (HX7.out.below HSX.out)
    have HB7 := hide (HB6.out.trans (HSX.out.mono (Nat.le_trans HP6.out.lo (Nat.le_of_lt HP6.out.lt))))
    have HL7 := hide (HL6.out.below HSX.out)
    have HNO7 := hide (HNO6.out.below HSX.out)
    have HYE7 := hide (HYE6.out.below HSX.out)
    have Rf := hide (hrf.below HSX.out)
    have tqf := fun z => cellB (pin_in (S := Below w6.heap.size w6) HSX.out z) tcf
    have Rg := hide (hrg.below HSX.out)
    have tqg := fun z => cellB (pin_in (S := Below w6.heap.size w6) HSX.out z) tcg
    have Rh := hide (hrh.below HSX.out)
    have tqh := fun z => cellB (pin_in (S := Below w6.heap.size w6) HSX.out z) tch
    have q4 := fun z => cellB (pin_in (S := Below w6.heap.size w6) HSX.out z) y4
    clear hrf tcf hrg tcg hrh tch y4 HP6 HX7 HB6 HL6 HNO6 HYE6
    go_wp2_with fail
    refine wp_region_tree ((Below w6.heap.size w6)) (fun k => ([] : List Nat).contains k) (.take [0, 1, 2, 3, 4, 5, 6, 7, 8, 9, 10, 11, 12, 13, 14, 15, 16, 17, 18, 19, 20] (.step 21 (.take [22] .done))) (by kernel_rfl) (by kernel_rfl) (by kernel_rfl) (by kernel_rfl) (.take (.cons (.zero) (.cons (.succ (.zero)) (.cons (.succ (.succ (.zero))) (.cons (.succ (.succ (.succ (.zero)))) (.cons (.succ (.succ (.succ (.succ (.zero))))) (.cons (.succ (.succ (.succ (.succ (.succ (.zero)))))) (.cons (.succ (.succ (.succ (.succ (.succ (.succ (.zero))))))) (.cons (.succ (.succ (.succ (.succ (.succ (.succ (.succ (.zero)))))))) (.cons (.succ (.succ (.succ (.succ (.succ (.succ (.succ (.succ (.zero))))))))) (.cons (.succ (.succ (.succ (.succ (.succ (.succ (.succ (.succ (.succ (.zero)))))))))) (.cons (.succ (.succ (.succ (.succ (.succ (.succ (.succ (.succ (.succ (.succ (.zero))))))))))) (.cons (.succ (.succ (.succ (.succ (.succ (.succ (.succ (.succ (.succ (.succ (.succ (.zero)))))))))))) (.cons (.succ (.succ (.succ (.succ (.succ (.succ (.succ (.succ (.succ (.succ (.succ (.succ (.zero))))))))))))) (.cons (.succ (.succ (.succ (.succ (.succ (.succ (.succ (.succ (.succ (.succ (.succ (.succ (.succ (.zero)))))))))))))) (.cons (.succ (.succ (.succ (.succ (.succ (.succ (.succ (.succ (.succ (.succ (.succ (.succ (.succ (.succ (.zero))))))))))))))) (.cons (.succ (.succ (.succ (.succ (.succ (.succ (.succ (.succ (.succ (.succ (.succ (.succ (.succ (.succ (.succ (.zero)))))))))))))))) (.cons (.succ (.succ (.succ (.succ (.succ (.succ (.succ (.succ (.succ (.succ (.succ (.succ (.succ (.succ (.succ (.succ (.zero))))))))))))))))) (.cons (.succ (.succ (.succ (.succ (.succ (.succ (.succ (.succ (.succ (.succ (.succ (.succ (.succ (.succ (.succ (.succ (.succ (.zero)))))))))))))))))) (.cons (.succ (.succ (.succ (.succ (.succ (.succ (.succ (.succ (.succ (.succ (.succ (.succ (.succ (.succ (.succ (.succ (.succ (.succ (.zero))))))))))))))))))) (.cons (.succ (.succ (.succ (.succ (.succ (.succ (.succ (.succ (.succ (.succ (.succ (.succ (.succ (.succ (.succ (.succ (.succ (.succ (.succ (.zero)))))))))))))))))))) (.cons (.succ (.succ (.succ (.succ (.succ (.succ (.succ (.succ (.succ (.succ (.succ (.succ (.succ (.succ (.succ (.succ (.succ (.succ (.succ (.succ (.zero))))))))))))))))))))) .nil))))))))))))))))))))) (.step (.succ (.succ (.succ (.succ (.succ (.succ (.succ (.succ (.succ (.succ (.succ (.succ (.succ (.succ (.succ (.succ (.succ (.succ (.succ (.succ (.succ (.zero)))))))))))))))))))))) rfl (.take (.cons (.succ (.succ (.succ (.succ (.succ (.succ (.succ (.succ (.succ (.succ (.succ (.succ (.succ (.succ (.succ (.succ (.succ (.succ (.succ (.succ (.succ (.succ (.zero))))))))))))))))))))))) .nil) .done))) ?hQ ?hS ?_
    case hQ => exact fun _ _ _ _ _ h => h
    case hS => exact HSX.out
    refine wpT_take ?_
    repeat (first | go_big_quiet_step ((fail)) | quiet_step ((fail)))
    refine wpQuiet_nil ?_
    clear tqf tqg tqh q4 hd6
    generalize w6.drew = x6 at *
    refine wpT_step rfl ?_
    intro K1 hK1
    go_wp2_with fail
    with_reducible refine (Ite_t HM.out hn6 Rf.out Rg.out Rh.out).mono ?_
    rintro e w7 ⟨gt, rfl, ht, hb⟩
    have HSZ := hide (HSX.out.trans (hb.mono HSX.out.size))
    have HT7 := hide ht
    have HP8 := hide (HP7.out.below hb)
    have HL8 := hide (HL7.out.below hb)
    have HB8 := hide (HB7.out.trans (hb.mono (Nat.le_trans HP7.out.lo (Nat.le_of_lt HP7.out.lt))))
    clear ht hb
    refine hK1.out _ _ (fun _ => pin_mem HSZ.out) ?_
    clear hK1
    refine wpT_take ?_
    repeat (first | go_big_quiet_step ((fail)) | quiet_step ((fail)))
    refine wpQuiet_nil ?_
    refine wpT_done ?_
    go_wp2_with fail
    with_reducible refine (give_ok HP8.out HPL.out HL3.out hq HPL4.out HL8.out HM.out HT7.out HPK.out.1 HPK.out.2.1 HPK.out.2.2).mono ?_
    intro e w8 ho
    have HO := hide (ho.after HB8.out)
    obtain ⟨he, _⟩ := ho
    subst he
    go_wp2_with fail
    go_ret
    exact HO.out
set_option maxHeartbeats 16000000 in
set_option maxRecDepth 100000 in
theorem makes5_bad (h : PlM D B w pp k s n ms ns Vn ts vs Vt Hs Vh) (P : Pl s n ms q Fs ns ts Hs) (L : Live w k s) (hq : q ≤ 60) (X : ActM B w xf xg xh xi A1 c1 l1 A2 c2 l2 A3 c3 l3) (hbad : xf < 0 ∨ xg < 0 ∨ xh < 0) :
    Calls Tryz.prog 9 #[.pointer (some ⟨pp, 0, none⟩), .agg (actC 5 xf xg xh xi xb A1 l1.length c1 A2 l2.length c2 A3 l3.length c3)] w (MkOut D B pp n ms q w) := by
  have HBW := hide (Nat.le_trans h.lo (Nat.le_of_lt h.lt))
  have HBAD := hide hbad
  obtain ⟨jf, hjf⟩ : ∃ j : Int, ofP ns.length xf = j := ⟨_, rfl⟩
  have sf := of_sign (m := ns.length) (x := xf)
  rw [hjf] at sf
  have Hof := hide hjf
  obtain ⟨jg, hjg⟩ : ∃ j : Int, ofP ns.length xg = j := ⟨_, rfl⟩
  have sg := of_sign (m := ns.length) (x := xg)
  rw [hjg] at sg
  have Hog := hide hjg
  obtain ⟨jh, hjh⟩ : ∃ j : Int, ofP ns.length xh = j := ⟨_, rfl⟩
  have sh := of_sign (m := ns.length) (x := xh)
  rw [hjh] at sh
  have Hoh := hide hjh
  have HW : (decide (jf < 0) = true) ∨ (decide (jf < 0) = false ∧ decide (jg < 0) = true) ∨ (decide (jf < 0) = false ∧ decide (jg < 0) = false ∧ decide (jh < 0) = true) := by
    have hb' := hbad
    rw [show (xf < 0) = (decide (jf < 0) = true) from propext (sf.symm.trans decide_eq_true_iff.symm)] at hb'
    rw [show (xg < 0) = (decide (jg < 0) = true) from propext (sg.symm.trans decide_eq_true_iff.symm)] at hb'
    rw [show (xh < 0) = (decide (jh < 0) = true) from propext (sh.symm.trans decide_eq_true_iff.symm)] at hb'
    revert hb'
    generalize decide (jf < 0) = v0
    generalize decide (jg < 0) = v1
    generalize decide (jh < 0) = v2
    clear HBAD hbad h P L hq X
    cases v0 <;> cases v1 <;> cases v2 <;> simp
  clear hbad sf hjf sg hjg sh hjh
  have hbx := bel_one w (.cells #[.int .u8 5, .int .i64 xf, .int .i64 xg, .int .i64 xh, .int .i64 xi, .bool xb, .slice A1 l1.length c1, .slice A2 l2.length c2, .slice A3 l3.length c3] 39)
  have HP1 := hide (h.below hbx)
  have hx0 := heap_new w (.cells #[.int .u8 5, .int .i64 xf, .int .i64 xg, .int .i64 xh, .int .i64 xi, .bool xb, .slice A1 l1.length c1, .slice A2 l2.length c2, .slice A3 l3.length c3] 39)
  have HX1 := hide hx0
  have HL1 := hide (L.below hbx)
  have HX2 := hide (X.below hbx)
  have HB1 := hide hbx
  have HN := hide (fun (v : Int) (hv : I64 v) (z : World) (hz : PlM D B z pp k s n ms ns Vn ts vs Vt Hs Vh) => of_any hz P.two (by have := P.sm; omega) v hv)
  have HPL := hide P
  have HI := hide (And.intro X.f (And.intro X.g (And.intro X.h X.i)))
  clear h X L hbx hx0 P
  go_enter Tryz.func9, Tryz.ntmps9
  go_upto_region 1 with fail
  generalize w.alloc (.cells #[.int .u8 5, .int .i64 xf, .int .i64 xg, .int .i64 xh, .int .i64 xi, .bool xb, .slice A1 l1.length c1, .slice A2 l2.length c2, .slice A3 l3.length c3] 39) = w1 at *
  have b1 := lat_cell (cell_heap (j := 1) HX1.out rfl)
  have b2 := lat_cell (cell_heap (j := 2) HX1.out rfl)
  have b3 := lat_cell (cell_heap (j := 3) HX1.out rfl)
  have HF := hide (fun z => HN.out xf HI.out.1 (lat w1 z) (HP1.out.below (lat_below w1 z)))
  have HG := hide (fun z => HN.out xg HI.out.2.1 (lat w1 z) (HP1.out.below (lat_below w1 z)))
  have HH := hide (fun z => HN.out xh HI.out.2.2.1 (lat w1 z) (HP1.out.below (lat_below w1 z)))
  rw [Hof.out] at HF
  rw [Hog.out] at HG
  rw [Hoh.out] at HH
  rcases HW with e0 | ⟨e0, e1⟩ | ⟨e0, e1, e2⟩
  all_goals (
    clear HN HI
    go_wp2_with fail
    refine wp_region_lat (by kernel_rfl) (by kernel_rfl) ?_
    repeat (first | go_big_quiet_step ((first | (go_at_call 12; with_reducible exact calls_lat_same (HF.out _)) | (go_at_call 12; with_reducible exact calls_lat_same (HG.out _)) | (go_at_call 12; with_reducible exact calls_lat_same (HH.out _)))) | quiet_step ((first | (go_at_call 12; with_reducible exact calls_lat_same (HF.out _)) | (go_at_call 12; with_reducible exact calls_lat_same (HG.out _)) | (go_at_call 12; with_reducible exact calls_lat_same (HH.out _)))))
    refine wpQuiet_nil ?_
    intro _ hlat
    obtain ⟨wq, rfl⟩ := hlat
    have HP2 := hide (HP1.out.below (lat_below w1 wq))
    have hx2 := heapB (lat_below w1 wq) HX1.out
    have HX12 := hide hx2
    have HL2 := hide (HL1.out.below (lat_below w1 wq))
    have HX3 := hide (HX2.out.below (lat_below w1 wq))
    have HB2 := hide (below_wide HB1.out (lat_below w1 wq))
    clear HP1 HX1 HL1 HX2 HB1 b1 b2 b3 HF HG HH
    generalize lat w1 wq = w2 at *
    have hd := cell_heap (j := 0) hx2 rfl
    have hdq := lat_cell hd
    clear hx2
    go_wp2_with fail
    simp only [List.append_eq, List.cons_append, List.nil_append]
    refine wp_region_lat (by kernel_rfl) (lex_of (by kernel_rfl) lex7) ?_
    repeat (first | go_big_quiet_step ((fail)) | quiet_step ((fail)))
    refine wpQuiet_nil ?_
    intro _ hlat
    obtain ⟨wp, rfl⟩ := hlat
    have HP3 := hide (HP2.out.below (lat_below w2 wp))
    have hx3 := heapB (lat_below w2 wp) HX12.out
    have HX13 := hide hx3
    have HL3 := hide (HL2.out.below (lat_below w2 wp))
    have HX4 := hide (HX3.out.below (lat_below w2 wp))
    have HB3 := hide (below_wide HB2.out (lat_below w2 wp))
    clear HP2 HX12 HL2 HX3 HB2 hd hdq
    generalize lat w2 wp = w3 at *
    have z0 := cell_heap (j := 0) hx3 rfl
    have z1 := cell_heap (j := 1) hx3 rfl
    have z2 := cell_heap (j := 2) hx3 rfl
    have z3 := cell_heap (j := 3) hx3 rfl
    have z4 := cell_heap (j := 4) hx3 rfl
    have z5 := cell_heap (j := 5) hx3 rfl
    have z6 := cell_heap (j := 6) hx3 rfl
    have z7 := cell_heap (j := 7) hx3 rfl
    have z8 := cell_heap (j := 8) hx3 rfl
    clear hx3
    have HCALL := hide (call5_bad (xb := xb) HP3.out HPL.out HL3.out hq HX4.out HBAD.out)
    go_wp2_with fail
    refine HCALL.out.mono ?_
    rintro e w4 ⟨rfl, hb⟩
    have HP4 := hide (HP3.out.below hb)
    have HL4 := hide (HL3.out.below hb)
    have HB4 := hide ((below_wide HB3.out hb).mono HBW.out)
    clear hb HCALL z0 z1 z2 z3 z4 z5 z6 z7 z8
    go_wp2_with fail
    with_reducible refine (give_no HP4.out HPL.out HL4.out _).mono ?_
    intro e w5 ho
    have HO := hide (ho.after HB4.out)
    obtain ⟨he, _⟩ := ho
    subst he
    go_wp2_with fail
    go_ret
    exact HO.out)
end
end Go.Proofs.YtgfjdkkfgclhjaaGreat.Bd
