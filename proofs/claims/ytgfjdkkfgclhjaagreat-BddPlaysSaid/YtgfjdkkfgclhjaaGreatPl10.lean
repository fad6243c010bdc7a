/- What the claim leans on, part 10 of 13: EY6 EY7 EY8 EY9 EZ CO FA. -/
import Derived.Deep.CutBlock
import Derived.Deep.DeepCutAuto
import Derived.Test.YtgfjdkkfgclhjaaGreatPl01
import Derived.Test.YtgfjdkkfgclhjaaGreatPl02
import Derived.Test.YtgfjdkkfgclhjaaGreatPl03
import Derived.Test.YtgfjdkkfgclhjaaGreatPl04
import Derived.Test.YtgfjdkkfgclhjaaGreatPl05
import Derived.Test.YtgfjdkkfgclhjaaGreatPl06
import Derived.Test.YtgfjdkkfgclhjaaGreatPl07
import Derived.Test.YtgfjdkkfgclhjaaGreatPl08
import Derived.Test.YtgfjdkkfgclhjaaGreatPl09
/- makes, walked for acts of kind 6 (printed by gen_ey.py). -/
namespace Go.Proofs.YtgfjdkkfgclhjaaGreat.Bd
open Go.RowKit Go.Proofs.YtgfjdkkfgclhjaaGreat Go.Proofs.YtgfjdkkfgclhjaaGreat.Lx Go.Maps

section
variable {D : Nat → Array Value → TypeId → Prop} {B : Nat} {w w' : World} {pp : Nat} {k : Blk} {s : St} {n ms q : Nat} {ns : List Nat} {Vn : Value} {ts : List Tb} {vs : List Value} {Vt : Value} {Hs : List Tb} {Vh : Value} {Fs : List (Env → Bool)} {xf xg xh xi : Int} {xb : Bool} {A1 A2 A3 : Option Addr} {c1 c2 c3 : Nat} {l1 l2 : List Int} {l3 : List Bool}
set_option maxHeartbeats 16000000 in
set_option maxRecDepth 100000 in
theorem makes6_good (h : PlM D B w pp k s n ms ns Vn ts vs Vt Hs Vh) (P : Pl s n ms q Fs ns ts Hs) (L : Live w k s) (hq : q ≤ 60) (X : ActM B w xf xg xh xi A1 c1 l1 A2 c2 l2 A3 c3 l3) (m : Nat) (hm : m = 2 ^ n) (v : Nat) (hxi : xi = (v : Int)) (hv : v < n) (af jf : Nat) (F : Env → Bool) (ef : nodeP ns xf = (af : Int)) (of : ofP ns.length xf = (jf : Int)) (uf : jf < ts.length) (tf : ts[jf]? = some (tab n F)) (nf : Nod s af (lowV n) F) :
    Calls Tryz.prog 9 #[.pointer (some ⟨pp, 0, none⟩), .agg (actC 6 xf xg xh xi xb A1 l1.length c1 A2 l2.length c2 A3 l3.length c3)] w (MkOut D B pp n ms q w) := by
  subst hxi
  have HM := hide hm
  have HBW := hide (Nat.le_trans h.lo (Nat.le_of_lt h.lt))
  have hn6 := P.n6
  clear hm
  have hbx := bel_one w (.cells #[.int .u8 6, .int .i64 xf, .int .i64 xg, .int .i64 xh, .int .i64 v, .bool xb, .slice A1 l1.length c1, .slice A2 l2.length c2, .slice A3 l3.length c3] 39)
  have HP1 := hide (h.below hbx)
  have hx0 := heap_new w (.cells #[.int .u8 6, .int .i64 xf, .int .i64 xg, .int .i64 xh, .int .i64 v, .bool xb, .slice A1 l1.length c1, .slice A2 l2.length c2, .slice A3 l3.length c3] 39)
  have HX1 := hide hx0
  have HL1 := hide (L.below hbx)
  have HX2 := hide (X.below hbx)
  have HB1 := hide hbx
  have HN := hide (fun (v : Int) (hv : I64 v) (z : World) (hz : PlM D B z pp k s n ms ns Vn ts vs Vt Hs Vh) => of_any hz P.two (by have := P.sm; omega) v hv)
  have HPL := hide P
  have HI := hide (And.intro X.f (And.intro X.g (And.intro X.h X.i)))
  clear h X L hbx hx0 P
  go_enter Tryz.func9, Tryz.ntmps9
  go_upto_region 1 with fail
  generalize w.alloc (.cells #[.int .u8 6, .int .i64 xf, .int .i64 xg, .int .i64 xh, .int .i64 v, .bool xb, .slice A1 l1.length c1, .slice A2 l2.length c2, .slice A3 l3.length c3] 39) = w1 at *
  have b1 := lat_cell (cell_heap (j := 1) HX1.out rfl)
  have b2 := lat_cell (cell_heap (j := 2) HX1.out rfl)
  have b3 := lat_cell (cell_heap (j := 3) HX1.out rfl)
  have HF := hide (fun z => HN.out xf HI.out.1 (lat w1 z) (HP1.out.below (lat_below w1 z)))
  have HG := hide (fun z => HN.out xg HI.out.2.1 (lat w1 z) (HP1.out.below (lat_below w1 z)))
  have HH := hide (fun z => HN.out xh HI.out.2.2.1 (lat w1 z) (HP1.out.below (lat_below w1 z)))
  rw [of] at HF
  generalize ofP ns.length xg = yg at *
  generalize ofP ns.length xh = yh at *
  have df : decide ((jf : Int) < 0) = false := decide_eq_false (by omega)
  have dv : decide ((v : Int) < 0) = false := decide_eq_false (by omega)
  have dw : decide ((n : Int) ≤ (v : Int)) = false := decide_eq_false (by omega)
  have Hof := hide of
  have Hef := hide ef
  clear of ef
  clear HN HI
  go_wp2_with fail
  refine wp_region_lat (by kernel_rfl) (by kernel_rfl) ?_
  repeat (first | go_big_quiet_step ((first | (go_at_call 12; with_reducible exact calls_lat_same (HF.out _)) | (go_at_call 12; with_reducible exact calls_lat_same (HG.out _)) | (go_at_call 12; with_reducible exact calls_lat_same (HH.out _)))) | quiet_step ((first | (go_at_call 12; with_reducible exact calls_lat_same (HF.out _)) | (go_at_call 12; with_reducible exact calls_lat_same (HG.out _)) | (go_at_call 12; with_reducible exact calls_lat_same (HH.out _)))))
  refine wpQuiet_nil ?_
  intro _ hlat
  obtain ⟨wq, rfl⟩ := hlat
  have HP2 := hide (HP1.out.below (lat_below w1 wq))
  have hx2 := heapB (lat_below w1 wq) HX1.out
  have HX12 := hide hx2
  have HL2 := hide (HL1.out.below (lat_below w1 wq))
  have HX3 := hide (HX2.out.below (lat_below w1 wq))
  have HB2 := hide (below_wide HB1.out (lat_below w1 wq))
  clear HP1 HX1 HL1 HX2 HB1 b1 b2 b3 HF HG HH
  generalize lat w1 wq = w2 at *
  have hd := cell_heap (j := 0) hx2 rfl
  have hdq := lat_cell hd
  have y4 := lat_cell (cell_heap (j := 4) hx2 rfl)
  have yn := lat_cell (HP2.out.cell (j := 1) rfl)
  clear hx2
  go_wp2_with fail
  simp only [List.append_eq, List.cons_append, List.nil_append]
  refine wp_region_lat (by kernel_rfl) (lex_of (by kernel_rfl) lex7) ?_
  repeat (first | go_big_quiet_step ((fail)) | quiet_step ((fail)))
  refine wpQuiet_nil ?_
  intro _ hlat
  obtain ⟨wp, rfl⟩ := hlat
  have HP3 := hide (HP2.out.below (lat_below w2 wp))
  have hx3 := heapB (lat_below w2 wp) HX12.out
  have HX13 := hide hx3
  have HL3 := hide (HL2.out.below (lat_below w2 wp))
  have HX4 := hide (HX3.out.below (lat_below w2 wp))
  have HB3 := hide (below_wide HB2.out (lat_below w2 wp))
  clear HP2 HX12 HL2 HX3 HB2 hd hdq y4 yn
  generalize lat w2 wp = w3 at *
  have z0 := cell_heap (j := 0) hx3 rfl
  have z1 := cell_heap (j := 1) hx3 rfl
  have z2 := cell_heap (j := 2) hx3 rfl
  have z3 := cell_heap (j := 3) hx3 rfl
  have z4 := cell_heap (j := 4) hx3 rfl
  have z5 := cell_heap (j := 5) hx3 rfl
  have z6 := cell_heap (j := 6) hx3 rfl
  have z7 := cell_heap (j := 7) hx3 rfl
  have z8 := cell_heap (j := 8) hx3 rfl
  clear hx3
  have HCALL := hide (call6_good (xb := xb) HP3.out HPL.out HL3.out hq HX4.out v rfl hv af F Hef.out nf)
  go_wp2_with fail
  refine HCALL.out.mono ?_
  intro e w4 ho
  have hans := HPL.out.answer HL3.out hq ho
  clear ho HCALL z0 z1 z2 z3 z4 z5 z6 z7 z8
  rcases hans with ⟨k4, s4, rfl, L4, T4, P4, hful⟩ | ⟨k4, s4, r, rfl, L4, T4, P4, hok, hr, hcmp⟩
  · have HPF := hide hful
    clear hful
    have HP4 := hide (HP3.out.turn T4 L4.ar)
    have HX14 := hide (T4.heap HX13.out (fp_type HP3.out.ar HX13.out (by decide) (by decide)))
    have HX5 := hide (HX4.out.turn HP3.out T4)
    have HB4 := hide (show Below B w w4 from (HB3.out.mono HBW.out).trans (T4.low HP3.out.fpl (Nat.le_trans HP3.out.lo (Nat.le_of_lt HP3.out.lt))))
    have HL4 := hide L4
    have HPL4 := hide P4
    clear L4 T4 P4 HP3 HX13 HX4 HB3
    have y1 := HP4.out.cell (j := 1) rfl
    go_wp2_with fail
    with_reducible refine (All_t HM.out hn6 false).mono ?_
    rintro e w5 ⟨gno, rfl, hno, hb⟩
    have HP5 := hide (HP4.out.below hb)
    have HX15 := hide (heapB hb HX14.out)
    have HX6 := hide (HX5.out.below hb)
    have HB5 := hide (HB4.out.trans (hb.mono (Nat.le_trans HP4.out.lo (Nat.le_of_lt HP4.out.lt))))
    have HL5 := hide (HL4.out.below hb)
    have HNO := hide hno
    clear hno hb y1 HP4 HX14 HX5 HB4 HL4
    have y1 := HP5.out.cell (j := 1) rfl
    go_wp2_with fail
    with_reducible refine (All_t HM.out hn6 true).mono ?_
    rintro e w6 ⟨gye, rfl, hye, hb⟩
    have HP6 := hide (HP5.out.below hb)
    have HX16 := hide (heapB hb HX15.out)
    have HX7 := hide (HX6.out.below hb)
    have HB6 := hide (HB5.out.trans (hb.mono (Nat.le_trans HP5.out.lo (Nat.le_of_lt HP5.out.lt))))
    have HL6 := hide (HL5.out.below hb)
    have HNO6 := hide (HNO.out.below hb)
    have HYE6 := hide hye
    clear hye hb y1 HP5 HX15 HX6 HB5 HL5 HNO
    have hd6 := cell_heap (j := 0) HX16.out rfl
    have HSX := hide (show Below w6.heap.size w6 w6.drew from (Below.refl _ _).drew)
    obtain ⟨ad, cV, gf, hVt, tcf, hrf⟩ := HP6.out.row HM.out tf
    subst hVt
    have ixf : ((jf : Nat) : Int) < (ts.length : Int) := by omega
    have y4 := HP6.out.cell (j := 4) rfl
    have y1 := HP6.out.cell (j := 1) rfl
    have x4 := cell_heap (j := 4) HX16.out rfl
    have x5 := cell_heap (j := 5) HX16.out rfl
    have HP7 := hide (HP6.out.below HSX.out)
    have HX8 := hide (HX7.out.below HSX.out)
    have HB7 := hide (HB6.out.trans (HSX.out.mono (Nat.le_trans HP6.out.lo (Nat.le_of_lt HP6.out.lt))))
    have HL7 := hide (HL6.out.below HSX.out)
    have HNO7 := hide (HNO6.out.below HSX.out)
    have HYE7 := hide (HYE6.out.below HSX.out)
    have Rf := hide (hrf.below HSX.out)
    have tqf := fun z => cellB (pin_in (S := Below w6.heap.size w6) HSX.out z) tcf
    have q4 := fun z => cellB (pin_in (S := Below w6.heap.size w6) HSX.out z) y4
    have q1 := fun z => cellB (pin_in (S := Below w6.heap.size w6) HSX.out z) y1
    have qx4 := fun z => cellB (pin_in (S := Below w6.heap.size w6) HSX.out z) x4
    have qx5 := fun z => cellB (pin_in (S := Below w6.heap.size w6) HSX.out z) x5
    clear hrf tcf y4 y1 x4 x5 HP6 HX7 HB6 HL6 HNO6 HYE6
    go_wp2_with fail
    refine wp_region_tree ((Below w6.heap.size w6)) (fun k => ([] : List Nat).contains k) (.take [0, 1, 2, 3, 4, 5, 6, 7, 8, 9, 10, 11, 12, 13, 14] (.step 15 (.take [16] .done))) (by kernel_rfl) (by kernel_rfl) (by kernel_rfl) (by kernel_rfl) (.take (.cons (.zero) (.cons (.succ (.zero)) (.cons (.succ (.succ (.zero))) (.cons (.succ (.succ (.succ (.zero)))) (.cons (.succ (.succ (.succ (.succ (.zero))))) (.cons (.succ (.succ (.succ (.succ (.succ (.zero)))))) (.cons (.succ (.succ (.succ (.succ (.succ (.succ (.zero))))))) (.cons (.succ (.succ (.succ (.succ (.succ (.succ (.succ (.zero)))))))) (.cons (.succ (.succ (.succ (.succ (.succ (.succ (.succ (.succ (.zero))))))))) (.cons (.succ (.succ (.succ (.succ (.succ (.succ (.succ (.succ (.succ (.zero)))))))))) (.cons (.succ (.succ (.succ (.succ (.succ (.succ (.succ (.succ (.succ (.succ (.zero))))))))))) (.cons (.succ (.succ (.succ (.succ (.succ (.succ (.succ (.succ (.succ (.succ (.succ (.zero)))))))))))) (.cons (.succ (.succ (.succ (.succ (.succ (.succ (.succ (.succ (.succ (.succ (.succ (.succ (.zero))))))))))))) (.cons (.succ (.succ (.succ (.succ (.succ (.succ (.succ (.succ (.succ (.succ (.succ (.succ (.succ (.zero)))))))))))))) (.cons (.succ (.succ (.succ (.succ (.succ (.succ (.succ (.succ (.succ (.succ (.succ (.succ (.succ (.succ (.zero))))))))))))))) .nil))))))))))))))) (.step (.succ (.succ (.succ (.succ (.succ (.succ (.succ (.succ (.succ (.succ (.succ (.succ (.succ (.succ (.succ (.zero)))))))))))))))) rfl (.take (.cons (.succ (.succ (.succ (.succ (.succ (.succ (.succ (.succ (.succ (.succ (.succ (.succ (.succ (.succ (.succ (.succ (.zero))))))))))))))))) .nil) .done))) ?hQ ?hS ?_
    case hQ => exact fun _ _ _ _ _ h => h
    case hS => exact HSX.out
    refine wpT_take ?_
    repeat (first | go_big_quiet_step ((fail)) | quiet_step ((fail)))
    refine wpQuiet_nil ?_
    clear tqf q4 q1 qx4 qx5 hd6
    generalize w6.drew = x6 at *
    refine wpT_step rfl ?_
    intro K1 hK1
    go_wp2_with fail
    with_reducible refine (Restrict_t HM.out hn6 Rf.out hv xb).mono ?_
    rintro e w7 ⟨gt, rfl, ht, hb⟩
    have HSZ := hide (HSX.out.trans (hb.mono HSX.out.size))
    have HT7 := hide ht
    have HP8 := hide (HP7.out.below hb)
    have HL8 := hide (HL7.out.below hb)
    have HB8 := hide (HB7.out.trans (hb.mono (Nat.le_trans HP7.out.lo (Nat.le_of_lt HP7.out.lt))))
    clear ht hb
    refine hK1.out _ _ (fun _ => pin_mem HSZ.out) ?_
    clear hK1
    refine wpT_take ?_
    repeat (first | go_big_quiet_step ((fail)) | quiet_step ((fail)))
    refine wpQuiet_nil ?_
    refine wpT_done ?_
    go_wp2_with fail
    with_reducible refine (give_full HP8.out HPL4.out HL8.out HM.out HT7.out HPF.out).mono ?_
    intro e w8 ho
    have HO := hide (ho.after HB8.out)
    obtain ⟨he, _⟩ := ho
    subst he
    go_wp2_with fail
    go_ret
    exact HO.out
  · have HPK := hide (And.intro hok (And.intro hr hcmp))
    clear hok hr hcmp
    have HP4 := hide (HP3.out.turn T4 L4.ar)
    have HX14 := hide (T4.heap HX13.out (fp_type HP3.out.ar HX13.out (by decide) (by decide)))
    have HX5 := hide (HX4.out.turn HP3.out T4)
    have HB4 := hide (show Below B w w4 from (HB3.out.mono HBW.out).trans (T4.low HP3.out.fpl (Nat.le_trans HP3.out.lo (Nat.le_of_lt HP3.out.lt))))
    have HL4 := hide L4
    have HPL4 := hide P4
    clear L4 T4 P4 HP3 HX13 HX4 HB3
    have y1 := HP4.out.cell (j := 1) rfl
    go_wp2_with fail
    with_reducible refine (All_t HM.out hn6 false).mono ?_
    rintro e w5 ⟨gno, rfl, hno, hb⟩
    have HP5 := hide (HP4.out.below hb)
    have HX15 := hide (heapB hb HX14.out)
    have HX6 := hide (HX5.out.below hb)
    have HB5 := hide (HB4.out.trans (hb.mono (Nat.le_trans HP4.out.lo (Nat.le_of_lt HP4.out.lt))))
    have HL5 := hide (HL4.out.below hb)
    have HNO := hide hno
    clear hno hb y1 HP4 HX14 HX5 HB4 HL4
    have y1 := HP5.out.cell (j := 1) rfl
    go_wp2_with fail
    with_reducible refine (All_t HM.out hn6 true).mono ?_
    rintro e w6 ⟨gye, rfl, hye, hb⟩
    have HP6 := hide (HP5.out.below hb)
    have HX16 := hide (heapB hb HX15.out)
    have HX7 := hide (HX6.out.below hb)
    have HB6 := hide (HB5.out.trans (hb.mono (Nat.le_trans HP5.out.lo (Nat.le_of_lt HP5.out.lt))))
    have HL6 := hide (HL5.out.below hb)
    have HNO6 := hide (HNO.out.below hb)
    have HYE6 := hide hye
    clear hye hb y1 HP5 HX15 HX6 HB5 HL5 HNO
    have hd6 := cell_heap (j := 0) HX16.out rfl
    have HSX := hide (show Below w6.heap.size w6 w6.drew from (Below.refl _ _).drew)
    obtain ⟨ad, cV, gf, hVt, tcf, hrf⟩ := HP6.out.row HM.out tf
    subst hVt
    have ixf : ((jf : Nat) : Int) < (ts.length : Int) := by omega
    have y4 := HP6.out.cell (j := 4) rfl
    have y1 := HP6.out.cell (j := 1) rfl
    have x4 := cell_heap (j := 4) HX16.out rfl
    have x5 := cell_heap (j := 5) HX16.out rfl
    have HP7 := hide (HP6.out.below HSX.out)
    have HX8 := hide (HX7.out.below HSX.out)
    have HB7 := hide (HB6.out.trans (HSX.out.mono (Nat.le_trans HP6.out.lo (Nat.le_of_lt HP6.out.lt))))
    have HL7 := hide (HL6.out.below HSX.out)
    have HNO7 := hide (HNO6.out.below HSX.out)
    have HYE7 := hide (HYE6.out.below HSX.out)
    have Rf := hide (hrf.below HSX.out)
    have tqf := fun z => cellB (pin_in (S := Below w6.heap.size w6) HSX.out z) tcf
    have q4 := fun z => cellB (pin_in (S := Below w6.heap.size w6) HSX.out z) y4
    have q1 := fun z => cellB (pin_in (S := Below w6.heap.size w6) HSX.out z) y1
    have qx4 := fun z => cellB (pin_in (S := Below w6.heap.size w6) HSX.out z) x4
    have qx5 := fun z => cellB (pin_in (S := Below w6.heap.size w6) HSX.out z) x5
    clear hrf tcf y4 y1 x4 x5 HP6 HX7 HB6 HL6 HNO6 HYE6
    go_wp2_with fail
    refine wp_region_tree ((Below w6.heap.size w6)) (fun k => ([] : List Nat).contains k) (.take [0, 1, 2, 3, 4, 5, 6, 7, 8, 9, 10, 11, 12, 13, 14] (.step 15 (.take [16] .done))) (by kernel_rfl) (by kernel_rfl) (by kernel_rfl) (by kernel_rfl) (.take (.cons (.zero) (.cons (.succ (.zero)) (.cons (.succ (.succ (.zero))) (.cons (.succ (.succ (.succ (.zero)))) (.cons (.succ (.succ (.succ (.succ (.zero))))) (.cons (.succ (.succ (.succ (.succ (.succ (.zero)))))) (.cons (.succ (.succ (.succ (.succ (.succ (.succ (.zero))))))) (.cons (.succ (.succ (.succ (.succ (.succ (.succ (.succ (.zero)))))))) (.cons (.succ (.succ (.succ (.succ (.succ (.succ (.succ (.succ (.zero))))))))) (.cons (.succ (.succ (.succ (.succ (.succ (.succ (.succ (.succ (.succ (.zero)))))))))) (.cons (.succ (.succ (.succ (.succ (.succ (.succ (.succ (.succ (.succ (.succ (.zero))))))))))) (.cons (.succ (.succ (.succ (.succ (.succ (.succ (.succ (.succ (.succ (.succ (.succ (.zero)))))))))))) (.cons (.succ (.succ (.succ (.succ (.succ (.succ (.succ (.succ (.succ (.succ (.succ (.succ (.zero))))))))))))) (.cons (.succ (.succ (.succ (.succ (.succ (.succ (.succ (.succ (.succ (.succ (.succ (.succ (.succ (.zero)))))))))))))) (.cons (.succ (.succ (.succ (.succ (.succ (.succ (.succ (.succ (.succ (.succ (.succ (.succ (.succ (.succ (.zero))))))))))))))) .nil))))))))))))))) (.step (.succ (.succ (.succ (.succ (.succ (.succ (.succ (.succ (.succ (.succ (.succ (.succ (.succ (.succ (.succ (.zero)))))))))))))))) rfl (.take (.cons (.succ (.succ (.succ (.succ (.succ (.succ (.succ (.succ (.succ (.succ (.succ (.succ (.succ (.succ (.succ (.succ (.zero))))))))))))))))) .nil) .done))) ?hQ ?hS ?_
    case hQ => exact fun _ _ _ _ _ h => h
    case hS => exact HSX.out
    refine wpT_take ?_
    repeat (first | go_big_quiet_step ((fail)) | quiet_step ((fail)))
    refine wpQuiet_nil ?_
    clear tqf q4 q1 qx4 qx5 hd6
    generalize w6.drew = x6 at *
    refine wpT_step rfl ?_
    intro K1 hK1
    go_wp2_with fail
    with_reducible refine (Restrict_t HM.out hn6 Rf.out hv xb).mono ?_
    rintro e w7 ⟨gt, rfl, ht, hb⟩
    have HSZ := hide (HSX.out.trans (hb.mono HSX.out.size))
    have HT7 := hide ht
    have HP8 := hide (HP7.out.below hb)
    have HL8 := hide (HL7.out.below hb)
    have HB8 := hide (HB7.out.trans (hb.mono (Nat.le_trans HP7.out.lo (Nat.le_of_lt HP7.out.lt))))
    clear ht hb
    refine hK1.out _ _ (fun _ => pin_mem HSZ.out) ?_
    clear hK1
    refine wpT_take ?_
    repeat (first | go_big_quiet_step ((fail)) | quiet_step ((fail)))
    refine wpQuiet_nil ?_
    refine wpT_done ?_
    go_wp2_with fail
    with_reducible refine (give_ok HP8.out HPL.out HL3.out hq HPL4.out HL8.out HM.out HT7.out HPK.out.1 HPK.out.2.1 HPK.out.2.2).mono ?_
    intro e w8 ho
    have HO := hide (ho.after HB8.out)
    obtain ⟨he, _⟩ := ho
    subst he
    go_wp2_with fail
    go_ret
    exact HO.out
set_option maxHeartbeats 16000000 in
set_option maxRecDepth 100000 in
theorem makes6_bad (h : PlM D B w pp k s n ms ns Vn ts vs Vt Hs Vh) (P : Pl s n ms q Fs ns ts Hs) (L : Live w k s) (hq : q ≤ 60) (X : ActM B w xf xg xh xi A1 c1 l1 A2 c2 l2 A3 c3 l3) (hbad : xf < 0 ∨ xi < 0 ∨ (n : Int) ≤ xi) :
    Calls Tryz.prog 9 #[.pointer (some ⟨pp, 0, none⟩), .agg (actC 6 xf xg xh xi xb A1 l1.length c1 A2 l2.length c2 A3 l3.length c3)] w (MkOut D B pp n ms q w) := by
  have HBW := hide (Nat.le_trans h.lo (Nat.le_of_lt h.lt))
  have HBAD := hide hbad
  obtain ⟨jf, hjf⟩ : ∃ j : Int, ofP ns.length xf = j := ⟨_, rfl⟩
  have sf := of_sign (m := ns.length) (x := xf)
  rw [hjf] at sf
  have Hof := hide hjf
  have HW : (decide (jf < 0) = true ∧ decide (xi < 0) = true) ∨ (decide (jf < 0) = true ∧ decide (xi < 0) = false ∧ decide ((n : Int) ≤ xi) = true) ∨ (decide (jf < 0) = true ∧ decide (xi < 0) = false ∧ decide ((n : Int) ≤ xi) = false) ∨ (decide (jf < 0) = false ∧ decide (xi < 0) = true) ∨ (decide (jf < 0) = false ∧ decide (xi < 0) = false ∧ decide ((n : Int) ≤ xi) = true) := by
    have hb' := hbad
    rw [show (xf < 0) = (decide (jf < 0) = true) from propext (sf.symm.trans decide_eq_true_iff.symm)] at hb'
    rw [show (xi < 0) = (decide (xi < 0) = true) from propext decide_eq_true_iff.symm, show ((n : Int) ≤ xi) = (decide ((n : Int) ≤ xi) = true) from propext decide_eq_true_iff.symm] at hb'
    revert hb'
    generalize decide (jf < 0) = v0
    generalize decide (xi < 0) = v1
    generalize decide ((n : Int) ≤ xi) = v2
    clear HBAD hbad h P L hq X
    cases v0 <;> cases v1 <;> cases v2 <;> simp
  clear hbad sf hjf
  have hbx := bel_one w (.cells #[.int .u8 6, .int .i64 xf, .int .i64 xg, .int .i64 xh, .int .i64 xi, .bool xb, .slice A1 l1.length c1, .slice A2 l2.length c2, .slice A3 l3.length c3] 39)
  have HP1 := hide (h.below hbx)
  have hx0 := heap_new w (.cells #[.int .u8 6, .int .i64 xf, .int .i64 xg, .int .i64 xh, .int .i64 xi, .bool xb, .slice A1 l1.length c1, .slice A2 l2.length c2, .slice A3 l3.length c3] 39)
  have HX1 := hide hx0
  have HL1 := hide (L.below hbx)
  have HX2 := hide (X.below hbx)
  have HB1 := hide hbx
  have HN := hide (fun (v : Int) (hv : I64 v) (z : World) (hz : PlM D B z pp k s n ms ns Vn ts vs Vt Hs Vh) => of_any hz P.two (by have := P.sm; omega) v hv)
  have HPL := hide P
  have HI := hide (And.intro X.f (And.intro X.g (And.intro X.h X.i)))
  clear h X L hbx hx0 P
  go_enter Tryz.func9, Tryz.ntmps9
  go_upto_region 1 with fail
  generalize w.alloc (.cells #[.int .u8 6, .int .i64 xf, .int .i64 xg, .int .i64 xh, .int .i64 xi, .bool xb, .slice A1 l1.length c1, .slice A2 l2.length c2, .slice A3 l3.length c3] 39) = w1 at *
  have b1 := lat_cell (cell_heap (j := 1) HX1.out rfl)
  have b2 := lat_cell (cell_heap (j := 2) HX1.out rfl)
  have b3 := lat_cell (cell_heap (j := 3) HX1.out rfl)
  have HF := hide (fun z => HN.out xf HI.out.1 (lat w1 z) (HP1.out.below (lat_below w1 z)))
  have HG := hide (fun z => HN.out xg HI.out.2.1 (lat w1 z) (HP1.out.below (lat_below w1 z)))
  have HH := hide (fun z => HN.out xh HI.out.2.2.1 (lat w1 z) (HP1.out.below (lat_below w1 z)))
  rw [Hof.out] at HF
  generalize ofP ns.length xg = yg at *
  generalize ofP ns.length xh = yh at *
  rcases HW with ⟨e0, e1⟩ | ⟨e0, e1, e2⟩ | ⟨e0, e1, e2⟩ | ⟨e0, e1⟩ | ⟨e0, e1, e2⟩
  all_goals (
    clear HN HI
    go_wp2_with fail
    refine wp_region_lat (by kernel_rfl) (by kernel_rfl) ?_
    repeat (first | go_big_quiet_step ((first | (go_at_call 12; with_reducible exact calls_lat_same (HF.out _)) | (go_at_call 12; with_reducible exact calls_lat_same (HG.out _)) | (go_at_call 12; with_reducible exact calls_lat_same (HH.out _)))) | quiet_step ((first | (go_at_call 12; with_reducible exact calls_lat_same (HF.out _)) | (go_at_call 12; with_reducible exact calls_lat_same (HG.out _)) | (go_at_call 12; with_reducible exact calls_lat_same (HH.out _)))))
    refine wpQuiet_nil ?_
    intro _ hlat
    obtain ⟨wq, rfl⟩ := hlat
    have HP2 := hide (HP1.out.below (lat_below w1 wq))
    have hx2 := heapB (lat_below w1 wq) HX1.out
    have HX12 := hide hx2
    have HL2 := hide (HL1.out.below (lat_below w1 wq))
    have HX3 := hide (HX2.out.below (lat_below w1 wq))
    have HB2 := hide (below_wide HB1.out (lat_below w1 wq))
    clear HP1 HX1 HL1 HX2 HB1 b1 b2 b3 HF HG HH
    generalize lat w1 wq = w2 at *
    have hd := cell_heap (j := 0) hx2 rfl
    have hdq := lat_cell hd
    have y4 := lat_cell (cell_heap (j := 4) hx2 rfl)
    have yn := lat_cell (HP2.out.cell (j := 1) rfl)
    clear hx2
    go_wp2_with fail
    simp only [List.append_eq, List.cons_append, List.nil_append]
    refine wp_region_lat (by kernel_rfl) (lex_of (by kernel_rfl) lex7) ?_
    repeat (first | go_big_quiet_step ((fail)) | quiet_step ((fail)))
    refine wpQuiet_nil ?_
    intro _ hlat
    obtain ⟨wp, rfl⟩ := hlat
    have HP3 := hide (HP2.out.below (lat_below w2 wp))
    have hx3 := heapB (lat_below w2 wp) HX12.out
    have HX13 := hide hx3
    have HL3 := hide (HL2.out.below (lat_below w2 wp))
    have HX4 := hide (HX3.out.below (lat_below w2 wp))
    have HB3 := hide (below_wide HB2.out (lat_below w2 wp))
    clear HP2 HX12 HL2 HX3 HB2 hd hdq y4 yn
    generalize lat w2 wp = w3 at *
    have z0 := cell_heap (j := 0) hx3 rfl
    have z1 := cell_heap (j := 1) hx3 rfl
    have z2 := cell_heap (j := 2) hx3 rfl
    have z3 := cell_heap (j := 3) hx3 rfl
    have z4 := cell_heap (j := 4) hx3 rfl
    have z5 := cell_heap (j := 5) hx3 rfl
    have z6 := cell_heap (j := 6) hx3 rfl
    have z7 := cell_heap (j := 7) hx3 rfl
    have z8 := cell_heap (j := 8) hx3 rfl
    clear hx3
    have HCALL := hide (call6_bad (xb := xb) HP3.out HPL.out HL3.out hq HX4.out HBAD.out)
    go_wp2_with fail
    refine HCALL.out.mono ?_
    rintro e w4 ⟨rfl, hb⟩
    have HP4 := hide (HP3.out.below hb)
    have HL4 := hide (HL3.out.below hb)
    have HB4 := hide ((below_wide HB3.out hb).mono HBW.out)
    clear hb HCALL z0 z1 z2 z3 z4 z5 z6 z7 z8
    go_wp2_with fail
    with_reducible refine (give_no HP4.out HPL.out HL4.out _).mono ?_
    intro e w5 ho
    have HO := hide (ho.after HB4.out)
    obtain ⟨he, _⟩ := ho
    subst he
    go_wp2_with fail
    go_ret
    exact HO.out)
end
end Go.Proofs.YtgfjdkkfgclhjaaGreat.Bd
/- makes, walked for acts of kind 7 (printed by gen_ey.py). -/
namespace Go.Proofs.YtgfjdkkfgclhjaaGreat.Bd
open Go.RowKit Go.Proofs.YtgfjdkkfgclhjaaGreat Go.Proofs.YtgfjdkkfgclhjaaGreat.Lx Go.Maps

section
variable {D : Nat → Array Value → TypeId → Prop} {B : Nat} {w w' : World} {pp : Nat} {k : Blk} {s : St} {n ms q : Nat} {ns : List Nat} {Vn : Value} {ts : List Tb} {vs : List Value} {Vt : Value} {Hs : List Tb} {Vh : Value} {Fs : List (Env → Bool)} {xf xg xh xi : Int} {xb : Bool} {A1 A2 A3 : Option Addr} {c1 c2 c3 : Nat} {l1 l2 : List Int} {l3 : List Bool}
set_option maxHeartbeats 16000000 in
set_option maxRecDepth 100000 in
theorem makes7_good (h : PlM D B w pp k s n ms ns Vn ts vs Vt Hs Vh) (P : Pl s n ms q Fs ns ts Hs) (L : Live w k s) (hq : q ≤ 60) (X : ActM B w xf xg xh xi A1 c1 l1 A2 c2 l2 A3 c3 l3) (m : Nat) (hm : m = 2 ^ n) (m1 : List Nat) (hl1 : l1 = encL m1) (hm1 : ∀ x ∈ m1, x < n) (af jf : Nat) (F : Env → Bool) (ef : nodeP ns xf = (af : Int)) (of : ofP ns.length xf = (jf : Int)) (uf : jf < ts.length) (tf : ts[jf]? = some (tab n F)) (nf : Nod s af (lowV n) F) :
    Calls Tryz.prog 9 #[.pointer (some ⟨pp, 0, none⟩), .agg (actC 7 xf xg xh xi xb A1 l1.length c1 A2 l2.length c2 A3 l3.length c3)] w (MkOut D B pp n ms q w) := by
  have HM := hide hm
  have HBW := hide (Nat.le_trans h.lo (Nat.le_of_lt h.lt))
  have hn6 := P.n6
  clear hm
  have Hq1 := hide hl1
  have Hk1 := hide (show knownB n l1 = true from by rw [hl1]; exact knownB_of hm1)
  clear hl1
  have hbx := bel_one w (.cells #[.int .u8 7, .int .i64 xf, .int .i64 xg, .int .i64 xh, .int .i64 xi, .bool xb, .slice A1 l1.length c1, .slice A2 l2.length c2, .slice A3 l3.length c3] 39)
  have HP1 := hide (h.below hbx)
  have hx0 := heap_new w (.cells #[.int .u8 7, .int .i64 xf, .int .i64 xg, .int .i64 xh, .int .i64 xi, .bool xb, .slice A1 l1.length c1, .slice A2 l2.length c2, .slice A3 l3.length c3] 39)
  have HX1 := hide hx0
  have HL1 := hide (L.below hbx)
  have HX2 := hide (X.below hbx)
  have HB1 := hide hbx
  have HN := hide (fun (v : Int) (hv : I64 v) (z : World) (hz : PlM D B z pp k s n ms ns Vn ts vs Vt Hs Vh) => of_any hz P.two (by have := P.sm; omega) v hv)
  have HPL := hide P
  have HI := hide (And.intro X.f (And.intro X.g (And.intro X.h X.i)))
  clear h X L hbx hx0 P
  go_enter Tryz.func9, Tryz.ntmps9
  go_upto_region 1 with fail
  generalize w.alloc (.cells #[.int .u8 7, .int .i64 xf, .int .i64 xg, .int .i64 xh, .int .i64 xi, .bool xb, .slice A1 l1.length c1, .slice A2 l2.length c2, .slice A3 l3.length c3] 39) = w1 at *
  have b1 := lat_cell (cell_heap (j := 1) HX1.out rfl)
  have b2 := lat_cell (cell_heap (j := 2) HX1.out rfl)
  have b3 := lat_cell (cell_heap (j := 3) HX1.out rfl)
  have HF := hide (fun z => HN.out xf HI.out.1 (lat w1 z) (HP1.out.below (lat_below w1 z)))
  have HG := hide (fun z => HN.out xg HI.out.2.1 (lat w1 z) (HP1.out.below (lat_below w1 z)))
  have HH := hide (fun z => HN.out xh HI.out.2.2.1 (lat w1 z) (HP1.out.below (lat_below w1 z)))
  rw [of] at HF
  generalize ofP ns.length xg = yg at *
  generalize ofP ns.length xh = yh at *
  have df : decide ((jf : Int) < 0) = false := decide_eq_false (by omega)
  have Hof := hide of
  have Hef := hide ef
  clear of ef
  clear HN HI
  go_wp2_with fail
  refine wp_region_lat (by kernel_rfl) (by kernel_rfl) ?_
  repeat (first | go_big_quiet_step ((first | (go_at_call 12; with_reducible exact calls_lat_same (HF.out _)) | (go_at_call 12; with_reducible exact calls_lat_same (HG.out _)) | (go_at_call 12; with_reducible exact calls_lat_same (HH.out _)))) | quiet_step ((first | (go_at_call 12; with_reducible exact calls_lat_same (HF.out _)) | (go_at_call 12; with_reducible exact calls_lat_same (HG.out _)) | (go_at_call 12; with_reducible exact calls_lat_same (HH.out _)))))
  refine wpQuiet_nil ?_
  intro _ hlat
  obtain ⟨wq, rfl⟩ := hlat
  have HP2 := hide (HP1.out.below (lat_below w1 wq))
  have hx2 := heapB (lat_below w1 wq) HX1.out
  have HX12 := hide hx2
  have HL2 := hide (HL1.out.below (lat_below w1 wq))
  have HX3 := hide (HX2.out.below (lat_below w1 wq))
  have HB2 := hide (below_wide HB1.out (lat_below w1 wq))
  clear HP1 HX1 HL1 HX2 HB1 b1 b2 b3 HF HG HH
  generalize lat w1 wq = w2 at *
  have hd := cell_heap (j := 0) hx2 rfl
  have hdq := lat_cell hd
  have y6 := lat_cell (cell_heap (j := 6) hx2 rfl)
  have HK1 := hide (fun z => pknown_any (HP2.out.below (lat_below w2 z)) A1 c1 l1 (HX3.out.below (lat_below w2 z)).s1 (len_max HX3.out.n1))
  rw [Hk1.out] at HK1
  clear hx2
  go_wp2_with fail
  simp only [List.append_eq, List.cons_append, List.nil_append]
  refine wp_region_lat (by kernel_rfl) (lex_of (by kernel_rfl) lex7) ?_
  repeat (first | go_big_quiet_step ((first | (go_at_call 26; with_reducible exact calls_lat (HK1.out _)))) | quiet_step ((first | (go_at_call 26; with_reducible exact calls_lat (HK1.out _)))))
  refine wpQuiet_nil ?_
  intro _ hlat
  obtain ⟨wp, rfl⟩ := hlat
  have HP3 := hide (HP2.out.below (lat_below w2 wp))
  have hx3 := heapB (lat_below w2 wp) HX12.out
  have HX13 := hide hx3
  have HL3 := hide (HL2.out.below (lat_below w2 wp))
  have HX4 := hide (HX3.out.below (lat_below w2 wp))
  have HB3 := hide (below_wide HB2.out (lat_below w2 wp))
  clear HP2 HX12 HL2 HX3 HB2 hd hdq y6 HK1
  generalize lat w2 wp = w3 at *
  have z0 := cell_heap (j := 0) hx3 rfl
  have z1 := cell_heap (j := 1) hx3 rfl
  have z2 := cell_heap (j := 2) hx3 rfl
  have z3 := cell_heap (j := 3) hx3 rfl
  have z4 := cell_heap (j := 4) hx3 rfl
  have z5 := cell_heap (j := 5) hx3 rfl
  have z6 := cell_heap (j := 6) hx3 rfl
  have z7 := cell_heap (j := 7) hx3 rfl
  have z8 := cell_heap (j := 8) hx3 rfl
  clear hx3
  have HCALL := hide (call7_good (xb := xb) HP3.out HPL.out HL3.out hq HX4.out m1 Hq1.out hm1 af F Hef.out nf)
  go_wp2_with fail
  refine HCALL.out.mono ?_
  intro e w4 ho
  have hans := HPL.out.answer HL3.out hq ho
  clear ho HCALL z0 z1 z2 z3 z4 z5 z6 z7 z8
  rcases hans with ⟨k4, s4, rfl, L4, T4, P4, hful⟩ | ⟨k4, s4, r, rfl, L4, T4, P4, hok, hr, hcmp⟩
  · have HPF := hide hful
    clear hful
    have HP4 := hide (HP3.out.turn T4 L4.ar)
    have HX14 := hide (T4.heap HX13.out (fp_type HP3.out.ar HX13.out (by decide) (by decide)))
    have HX5 := hide (HX4.out.turn HP3.out T4)
    have HB4 := hide (show Below B w w4 from (HB3.out.mono HBW.out).trans (T4.low HP3.out.fpl (Nat.le_trans HP3.out.lo (Nat.le_of_lt HP3.out.lt))))
    have HL4 := hide L4
    have HPL4 := hide P4
    clear L4 T4 P4 HP3 HX13 HX4 HB3
    have y1 := HP4.out.cell (j := 1) rfl
    go_wp2_with fail
    with_reducible refine (All_t HM.out hn6 false).mono ?_
    rintro e w5 ⟨gno, rfl, hno, hb⟩
    have HP5 := hide (HP4.out.below hb)
    have HX15 := hide (heapB hb HX14.out)
    have HX6 := hide (HX5.out.below hb)
    have HB5 := hide (HB4.out.trans (hb.mono (Nat.le_trans HP4.out.lo (Nat.le_of_lt HP4.out.lt))))
    have HL5 := hide (HL4.out.below hb)
    have HNO := hide hno
    clear hno hb y1 HP4 HX14 HX5 HB4 HL4
    have y1 := HP5.out.cell (j := 1) rfl
    go_wp2_with fail
    with_reducible refine (All_t HM.out hn6 true).mono ?_
    rintro e w6 ⟨gye, rfl, hye, hb⟩
    have HP6 := hide (HP5.out.below hb)
    have HX16 := hide (heapB hb HX15.out)
    have HX7 := hide (HX6.out.below hb)
    have HB6 := hide (HB5.out.trans (hb.mono (Nat.le_trans HP5.out.lo (Nat.le_of_lt HP5.out.lt))))
    have HL6 := hide (HL5.out.below hb)
    have HNO6 := hide (HNO.out.below hb)
    have HYE6 := hide hye
    clear hye hb y1 HP5 HX15 HX6 HB5 HL5 HNO
    have hd6 := cell_heap (j := 0) HX16.out rfl
    have HSX := hide (show Below w6.heap.size w6 w6.drew from (Below.refl _ _).drew)
    obtain ⟨ad, cV, gf, hVt, tcf, hrf⟩ := HP6.out.row HM.out tf
    subst hVt
    have ixf : ((jf : Nat) : Int) < (ts.length : Int) := by omega
    have y4 := HP6.out.cell (j := 4) rfl
    have y1 := HP6.out.cell (j := 1) rfl
    have x6 := cell_heap (j := 6) HX16.out rfl
    have hlm1 : l1.length = m1.length := by rw [Hq1.out, encL_len]
    rw [hlm1] at x6
    clear hlm1
    have HP7 := hide (HP6.out.below HSX.out)
    have HX8 := hide (HX7.out.below HSX.out)
    have HB7 := hide (HB6.out.trans (HSX.out.mono (Nat.le_trans HP6.out.lo (Nat.le_of_lt HP6.out.lt))))
    have HL7 := hide (HL6.out.below HSX.out)
    have HNO7 := hide (HNO6.out.below HSX.out)
    have HYE7 := hide (HYE6.out.below HSX.out)
    have Rf := hide (hrf.below HSX.out)
    have tqf := fun z => cellB (pin_in (S := Below w6.heap.size w6) HSX.out z) tcf
    have q4 := fun z => cellB (pin_in (S := Below w6.heap.size w6) HSX.out z) y4
    have q1 := fun z => cellB (pin_in (S := Below w6.heap.size w6) HSX.out z) y1
    have qd := fun z => cellB (pin_in (S := Below w6.heap.size w6) HSX.out z) hd6
    have qx6 := fun z => cellB (pin_in (S := Below w6.heap.size w6) HSX.out z) x6
    clear hrf tcf y4 y1 x6 HP6 HX7 HB6 HL6 HNO6 HYE6
    go_wp2_with fail
    refine wp_region_tree ((Below w6.heap.size w6)) (fun k => ([] : List Nat).contains k) (.take [0, 1, 2, 3, 4, 5, 6, 7, 8, 9, 10, 11, 12, 13, 14, 15] (.step 16 (.take [17] .done))) (by kernel_rfl) (by kernel_rfl) (by kernel_rfl) (by kernel_rfl) (.take (.cons (.zero) (.cons (.succ (.zero)) (.cons (.succ (.succ (.zero))) (.cons (.succ (.succ (.succ (.zero)))) (.cons (.succ (.succ (.succ (.succ (.zero))))) (.cons (.succ (.succ (.succ (.succ (.succ (.zero)))))) (.cons (.succ (.succ (.succ (.succ (.succ (.succ (.zero))))))) (.cons (.succ (.succ (.succ (.succ (.succ (.succ (.succ (.zero)))))))) (.cons (.succ (.succ (.succ (.succ (.succ (.succ (.succ (.succ (.zero))))))))) (.cons (.succ (.succ (.succ (.succ (.succ (.succ (.succ (.succ (.succ (.zero)))))))))) (.cons (.succ (.succ (.succ (.succ (.succ (.succ (.succ (.succ (.succ (.succ (.zero))))))))))) (.cons (.succ (.succ (.succ (.succ (.succ (.succ (.succ (.succ (.succ (.succ (.succ (.zero)))))))))))) (.cons (.succ (.succ (.succ (.succ (.succ (.succ (.succ (.succ (.succ (.succ (.succ (.succ (.zero))))))))))))) (.cons (.succ (.succ (.succ (.succ (.succ (.succ (.succ (.succ (.succ (.succ (.succ (.succ (.succ (.zero)))))))))))))) (.cons (.succ (.succ (.succ (.succ (.succ (.succ (.succ (.succ (.succ (.succ (.succ (.succ (.succ (.succ (.zero))))))))))))))) (.cons (.succ (.succ (.succ (.succ (.succ (.succ (.succ (.succ (.succ (.succ (.succ (.succ (.succ (.succ (.succ (.zero)))))))))))))))) .nil)))))))))))))))) (.step (.succ (.succ (.succ (.succ (.succ (.succ (.succ (.succ (.succ (.succ (.succ (.succ (.succ (.succ (.succ (.succ (.zero))))))))))))))))) rfl (.take (.cons (.succ (.succ (.succ (.succ (.succ (.succ (.succ (.succ (.succ (.succ (.succ (.succ (.succ (.succ (.succ (.succ (.succ (.zero)))))))))))))))))) .nil) .done))) ?hQ ?hS ?_
    case hQ => exact fun _ _ _ _ _ h => h
    case hS => exact HSX.out
    refine wpT_take ?_
    repeat (first | go_big_quiet_step ((fail)) | quiet_step ((fail)))
    refine wpQuiet_nil ?_
    clear tqf q4 q1 qd qx6 hd6
    generalize w6.drew = x6 at *
    refine wpT_step rfl ?_
    intro K1 hK1
    go_wp2_with fail
    with_reducible refine (Over_t HM.out hn6 Rf.out A1 c1 m1 false (by have := HX8.out.s1; rw [Hq1.out, encL_len] at this; exact this) hm1 (by have := HX8.out.n1; rw [Hq1.out, encL_len] at this; exact len_max this)).mono ?_
    rintro e w7 ⟨gt, rfl, ht, hb⟩
    have HSZ := hide (HSX.out.trans (hb.mono HSX.out.size))
    have HT7 := hide ht
    have HP8 := hide (HP7.out.below hb)
    have HL8 := hide (HL7.out.below hb)
    have HB8 := hide (HB7.out.trans (hb.mono (Nat.le_trans HP7.out.lo (Nat.le_of_lt HP7.out.lt))))
    clear ht hb
    refine hK1.out _ _ (fun _ => pin_mem HSZ.out) ?_
    clear hK1
    refine wpT_take ?_
    repeat (first | go_big_quiet_step ((fail)) | quiet_step ((fail)))
    refine wpQuiet_nil ?_
    refine wpT_done ?_
    go_wp2_with fail
    with_reducible refine (give_full HP8.out HPL4.out HL8.out HM.out HT7.out HPF.out).mono ?_
    intro e w8 ho
    have HO := hide (ho.after HB8.out)
    obtain ⟨he, _⟩ := ho
    subst he
    go_wp2_with fail
    go_ret
    exact HO.out
  · have HPK := hide (And.intro hok (And.intro hr hcmp))
    clear hok hr hcmp
    have HP4 := hide (HP3.out.turn T4 L4.ar)
    have HX14 := hide (T4.heap HX13.out (fp_type HP3.out.ar HX13.out (by decide) (by decide)))
    have HX5 := hide (HX4.out.turn HP3.out T4)
    have HB4 := hide (show Below B w w4 from (HB3.out.mono HBW.out).trans (T4.low HP3.out.fpl (Nat.le_trans HP3.out.lo (Nat.le_of_lt HP3.out.lt))))
    have HL4 := hide L4
    have HPL4 := hide P4
    clear L4 T4 P4 HP3 HX13 HX4 HB3
    have y1 := HP4.out.cell (j := 1) rfl
    go_wp2_with fail
    with_reducible refine (All_t HM.out hn6 false).mono ?_
    rintro e w5 ⟨gno, rfl, hno, hb⟩
    have HP5 := hide (HP4.out.below hb)
    have HX15 := hide (heapB hb HX14.out)
    have HX6 := hide (HX5.out.below hb)
    have HB5 := hide (HB4.out.trans (hb.mono (Nat.le_trans HP4.out.lo (Nat.le_of_lt HP4.out.lt))))
    have HL5 := hide (HL4.out.below hb)
    have HNO := hide hno
    clear hno hb y1 HP4 HX14 HX5 HB4 HL4
    have y1 := HP5.out.cell (j := 1) rfl
    go_wp2_with fail
    with_reducible refine (All_t HM.out hn6 true).mono ?_
    rintro e w6 ⟨gye, rfl, hye, hb⟩
    have HP6 := hide (HP5.out.below hb)
    have HX16 := hide (heapB hb HX15.out)
    have HX7 := hide (HX6.out.below hb)
    have HB6 := hide (HB5.out.trans (hb.mono (Nat.le_trans HP5.out.lo (Nat.le_of_lt HP5.out.lt))))
    have HL6 := hide (HL5.out.below hb)
    have HNO6 := hide (HNO.out.below hb)
    have HYE6 := hide hye
    clear hye hb y1 HP5 HX15 HX6 HB5 HL5 HNO
    have hd6 := cell_heap (j := 0) HX16.out rfl
    have HSX := hide (show Below w6.heap.size w6 w6.drew from (Below.refl _ _).drew)
    obtain ⟨ad, cV, gf, hVt, tcf, hrf⟩ := HP6.out.row HM.out tf
    subst hVt
    have ixf : ((jf : Nat) : Int) < (ts.length : Int) := by omega
    have y4 := HP6.out.cell (j := 4) rfl
    have y1 := HP6.out.cell (j := 1) rfl
    have x6 := cell_heap (j := 6) HX16.out rfl
    have hlm1 : l1.length = m1.length := by rw [Hq1.out, encL_len]
    rw [hlm1] at x6
    clear hlm1
    have HP7 := hide (HP6.out.below HSX.out)
    have HX8 := hide (HX7.out.below HSX.out)
    have HB7 := hide (HB6.out.trans (HSX.out.mono (Nat.le_trans HP6.out.lo (Nat.le_of_lt HP6.out.lt))))
    have HL7 := hide (HL6.out.below HSX.out)
    have HNO7 := hide (HNO6.out.below HSX.out)
    have HYE7 := hide (HYE6.out.below HSX.out)
    have Rf := hide (hrf.below HSX.out)
    have tqf := fun z => cellB (pin_in (S := Below w6.heap.size w6) HSX.out z) tcf
    have q4 := fun z => cellB (pin_in (S := Below w6.heap.size w6) HSX.out z) y4
    have q1 := fun z => cellB (pin_in (S := Below w6.heap.size w6) HSX.out z) y1
    have qd := fun z => cellB (pin_in (S := Below w6.heap.size w6) HSX.out z) hd6
    have qx6 := fun z => cellB (pin_in (S := Below w6.heap.size w6) HSX.out z) x6
    clear hrf tcf y4 y1 x6 HP6 HX7 HB6 HL6 HNO6 HYE6
    go_wp2_with fail
    refine wp_region_tree ((Below w6.heap.size w6)) (fun k => ([] : List Nat).contains k) (.take [0, 1, 2, 3, 4, 5, 6, 7, 8, 9, 10, 11, 12, 13, 14, 15] (.step 16 (.take [17] .done))) (by kernel_rfl) (by kernel_rfl) (by kernel_rfl) (by kernel_rfl) (.take (.cons (.zero) (.cons (.succ (.zero)) (.cons (.succ (.succ (.zero))) (.cons (.succ (.succ (.succ (.zero)))) (.cons (.succ (.succ (.succ (.succ (.zero))))) (.cons (.succ (.succ (.succ (.succ (.succ (.zero)))))) (.cons (.succ (.succ (.succ (.succ (.succ (.succ (.zero))))))) (.cons (.succ (.succ (.succ (.succ (.succ (.succ (.succ (.zero)))))))) (.cons (.succ (.succ (.succ (.succ (.succ (.succ (.succ (.succ (.zero))))))))) (.cons (.succ (.succ (.succ (.succ (.succ (.succ (.succ (.succ (.succ (.zero)))))))))) (.cons (.succ (.succ (.succ (.succ (.succ (.succ (.succ (.succ (.succ (.succ (.zero))))))))))) (.cons (.succ (.succ (.succ (.succ (.succ (.succ (.succ (.succ (.succ (.succ (.succ (.zero)))))))))))) (.cons (.succ (.succ (.succ (.succ (.succ (.succ (.succ (.succ (.succ (.succ (.succ (.succ (.zero))))))))))))) (.cons (.succ (.succ (.succ (.succ (.succ (.succ (.succ (.succ (.succ (.succ (.succ (.succ (.succ (.zero)))))))))))))) (.cons (.succ (.succ (.succ (.succ (.succ (.succ (.succ (.succ (.succ (.succ (.succ (.succ (.succ (.succ (.zero))))))))))))))) (.cons (.succ (.succ (.succ (.succ (.succ (.succ (.succ (.succ (.succ (.succ (.succ (.succ (.succ (.succ (.succ (.zero)))))))))))))))) .nil)))))))))))))))) (.step (.succ (.succ (.succ (.succ (.succ (.succ (.succ (.succ (.succ (.succ (.succ (.succ (.succ (.succ (.succ (.succ (.zero))))))))))))))))) rfl (.take (.cons (.succ (.succ (.succ (.succ (.succ (.succ (.succ (.succ (.succ (.succ (.succ (.succ (.succ (.succ (.succ (.succ (.succ (.zero)))))))))))))))))) .nil) .done))) ?hQ ?hS ?_
    case hQ => exact fun _ _ _ _ _ h => h
    case hS => exact HSX.out
    refine wpT_take ?_
    repeat (first | go_big_quiet_step ((fail)) | quiet_step ((fail)))
    refine wpQuiet_nil ?_
    clear tqf q4 q1 qd qx6 hd6
    generalize w6.drew = x6 at *
    refine wpT_step rfl ?_
    intro K1 hK1
    go_wp2_with fail
    with_reducible refine (Over_t HM.out hn6 Rf.out A1 c1 m1 false (by have := HX8.out.s1; rw [Hq1.out, encL_len] at this; exact this) hm1 (by have := HX8.out.n1; rw [Hq1.out, encL_len] at this; exact len_max this)).mono ?_
    rintro e w7 ⟨gt, rfl, ht, hb⟩
    have HSZ := hide (HSX.out.trans (hb.mono HSX.out.size))
    have HT7 := hide ht
    have HP8 := hide (HP7.out.below hb)
    have HL8 := hide (HL7.out.below hb)
    have HB8 := hide (HB7.out.trans (hb.mono (Nat.le_trans HP7.out.lo (Nat.le_of_lt HP7.out.lt))))
    clear ht hb
    refine hK1.out _ _ (fun _ => pin_mem HSZ.out) ?_
    clear hK1
    refine wpT_take ?_
    repeat (first | go_big_quiet_step ((fail)) | quiet_step ((fail)))
    refine wpQuiet_nil ?_
    refine wpT_done ?_
    go_wp2_with fail
    with_reducible refine (give_ok HP8.out HPL.out HL3.out hq HPL4.out HL8.out HM.out HT7.out HPK.out.1 HPK.out.2.1 HPK.out.2.2).mono ?_
    intro e w8 ho
    have HO := hide (ho.after HB8.out)
    obtain ⟨he, _⟩ := ho
    subst he
    go_wp2_with fail
    go_ret
    exact HO.out
set_option maxHeartbeats 16000000 in
set_option maxRecDepth 100000 in
theorem makes7_bad (h : PlM D B w pp k s n ms ns Vn ts vs Vt Hs Vh) (P : Pl s n ms q Fs ns ts Hs) (L : Live w k s) (hq : q ≤ 60) (X : ActM B w xf xg xh xi A1 c1 l1 A2 c2 l2 A3 c3 l3) (hbad : xf < 0 ∨ knownB n l1 = false) :
    Calls Tryz.prog 9 #[.pointer (some ⟨pp, 0, none⟩), .agg (actC 7 xf xg xh xi xb A1 l1.length c1 A2 l2.length c2 A3 l3.length c3)] w (MkOut D B pp n ms q w) := by
  have HBW := hide (Nat.le_trans h.lo (Nat.le_of_lt h.lt))
  have HBAD := hide hbad
  obtain ⟨jf, hjf⟩ : ∃ j : Int, ofP ns.length xf = j := ⟨_, rfl⟩
  have sf := of_sign (m := ns.length) (x := xf)
  rw [hjf] at sf
  have Hof := hide hjf
  obtain ⟨b1, hb1⟩ : ∃ b, knownB n l1 = b := ⟨_, rfl⟩
  rw [hb1] at hbad
  have Hk1 := hide hb1
  have HW : (decide (jf < 0) = true ∧ b1 = true) ∨ (decide (jf < 0) = true ∧ b1 = false) ∨ (decide (jf < 0) = false ∧ b1 = false) := by
    have hb' := hbad
    rw [show (xf < 0) = (decide (jf < 0) = true) from propext (sf.symm.trans decide_eq_true_iff.symm)] at hb'
    revert hb'
    generalize decide (jf < 0) = v0
    clear HBAD hbad h P L hq X hb1 Hk1
    cases v0 <;> cases b1 <;> simp
  clear hbad sf hjf hb1
  have hbx := bel_one w (.cells #[.int .u8 7, .int .i64 xf, .int .i64 xg, .int .i64 xh, .int .i64 xi, .bool xb, .slice A1 l1.length c1, .slice A2 l2.length c2, .slice A3 l3.length c3] 39)
  have HP1 := hide (h.below hbx)
  have hx0 := heap_new w (.cells #[.int .u8 7, .int .i64 xf, .int .i64 xg, .int .i64 xh, .int .i64 xi, .bool xb, .slice A1 l1.length c1, .slice A2 l2.length c2, .slice A3 l3.length c3] 39)
  have HX1 := hide hx0
  have HL1 := hide (L.below hbx)
  have HX2 := hide (X.below hbx)
  have HB1 := hide hbx
  have HN := hide (fun (v : Int) (hv : I64 v) (z : World) (hz : PlM D B z pp k s n ms ns Vn ts vs Vt Hs Vh) => of_any hz P.two (by have := P.sm; omega) v hv)
  have HPL := hide P
  have HI := hide (And.intro X.f (And.intro X.g (And.intro X.h X.i)))
  clear h X L hbx hx0 P
  go_enter Tryz.func9, Tryz.ntmps9
  go_upto_region 1 with fail
  generalize w.alloc (.cells #[.int .u8 7, .int .i64 xf, .int .i64 xg, .int .i64 xh, .int .i64 xi, .bool xb, .slice A1 l1.length c1, .slice A2 l2.length c2, .slice A3 l3.length c3] 39) = w1 at *
  have b1 := lat_cell (cell_heap (j := 1) HX1.out rfl)
  have b2 := lat_cell (cell_heap (j := 2) HX1.out rfl)
  have b3 := lat_cell (cell_heap (j := 3) HX1.out rfl)
  have HF := hide (fun z => HN.out xf HI.out.1 (lat w1 z) (HP1.out.below (lat_below w1 z)))
  have HG := hide (fun z => HN.out xg HI.out.2.1 (lat w1 z) (HP1.out.below (lat_below w1 z)))
  have HH := hide (fun z => HN.out xh HI.out.2.2.1 (lat w1 z) (HP1.out.below (lat_below w1 z)))
  rw [Hof.out] at HF
  generalize ofP ns.length xg = yg at *
  generalize ofP ns.length xh = yh at *
  rcases HW with ⟨e0, e1⟩ | ⟨e0, e1⟩ | ⟨e0, e1⟩
  all_goals (
    try subst b1
    clear HN HI
    go_wp2_with fail
    refine wp_region_lat (by kernel_rfl) (by kernel_rfl) ?_
    repeat (first | go_big_quiet_step ((first | (go_at_call 12; with_reducible exact calls_lat_same (HF.out _)) | (go_at_call 12; with_reducible exact calls_lat_same (HG.out _)) | (go_at_call 12; with_reducible exact calls_lat_same (HH.out _)))) | quiet_step ((first | (go_at_call 12; with_reducible exact calls_lat_same (HF.out _)) | (go_at_call 12; with_reducible exact calls_lat_same (HG.out _)) | (go_at_call 12; with_reducible exact calls_lat_same (HH.out _)))))
    refine wpQuiet_nil ?_
    intro _ hlat
    obtain ⟨wq, rfl⟩ := hlat
    have HP2 := hide (HP1.out.below (lat_below w1 wq))
    have hx2 := heapB (lat_below w1 wq) HX1.out
    have HX12 := hide hx2
    have HL2 := hide (HL1.out.below (lat_below w1 wq))
    have HX3 := hide (HX2.out.below (lat_below w1 wq))
    have HB2 := hide (below_wide HB1.out (lat_below w1 wq))
    clear HP1 HX1 HL1 HX2 HB1 b1 b2 b3 HF HG HH
    generalize lat w1 wq = w2 at *
    have hd := cell_heap (j := 0) hx2 rfl
    have hdq := lat_cell hd
    have y6 := lat_cell (cell_heap (j := 6) hx2 rfl)
    have HK1 := hide (fun z => pknown_any (HP2.out.below (lat_below w2 z)) A1 c1 l1 (HX3.out.below (lat_below w2 z)).s1 (len_max HX3.out.n1))
    rw [Hk1.out] at HK1
    clear hx2
    go_wp2_with fail
    simp only [List.append_eq, List.cons_append, List.nil_append]
    refine wp_region_lat (by kernel_rfl) (lex_of (by kernel_rfl) lex7) ?_
    repeat (first | go_big_quiet_step ((first | (go_at_call 26; with_reducible exact calls_lat (HK1.out _)))) | quiet_step ((first | (go_at_call 26; with_reducible exact calls_lat (HK1.out _)))))
    refine wpQuiet_nil ?_
    intro _ hlat
    obtain ⟨wp, rfl⟩ := hlat
    have HP3 := hide (HP2.out.below (lat_below w2 wp))
    have hx3 := heapB (lat_below w2 wp) HX12.out
    have HX13 := hide hx3
    have HL3 := hide (HL2.out.below (lat_below w2 wp))
    have HX4 := hide (HX3.out.below (lat_below w2 wp))
    have HB3 := hide (below_wide HB2.out (lat_below w2 wp))
    clear HP2 HX12 HL2 HX3 HB2 hd hdq y6 HK1
    generalize lat w2 wp = w3 at *
    have z0 := cell_heap (j := 0) hx3 rfl
    have z1 := cell_heap (j := 1) hx3 rfl
    have z2 := cell_heap (j := 2) hx3 rfl
    have z3 := cell_heap (j := 3) hx3 rfl
    have z4 := cell_heap (j := 4) hx3 rfl
    have z5 := cell_heap (j := 5) hx3 rfl
    have z6 := cell_heap (j := 6) hx3 rfl
    have z7 := cell_heap (j := 7) hx3 rfl
    have z8 := cell_heap (j := 8) hx3 rfl
    clear hx3
    have HCALL := hide (call7_bad (xb := xb) HP3.out HPL.out HL3.out hq HX4.out HBAD.out)
    go_wp2_with fail
    refine HCALL.out.mono ?_
    rintro e w4 ⟨rfl, hb⟩
    have HP4 := hide (HP3.out.below hb)
    have HL4 := hide (HL3.out.below hb)
    have HB4 := hide ((below_wide HB3.out hb).mono HBW.out)
    clear hb HCALL z0 z1 z2 z3 z4 z5 z6 z7 z8
    go_wp2_with fail
    with_reducible refine (give_no HP4.out HPL.out HL4.out _).mono ?_
    intro e w5 ho
    have HO := hide (ho.after HB4.out)
    obtain ⟨he, _⟩ := ho
    subst he
    go_wp2_with fail
    go_ret
    exact HO.out)
end
end Go.Proofs.YtgfjdkkfgclhjaaGreat.Bd
/- makes, walked for acts of kind 8 (printed by gen_ey.py). -/
namespace Go.Proofs.YtgfjdkkfgclhjaaGreat.Bd
open Go.RowKit Go.Proofs.YtgfjdkkfgclhjaaGreat Go.Proofs.YtgfjdkkfgclhjaaGreat.Lx Go.Maps

section
variable {D : Nat → Array Value → TypeId → Prop} {B : Nat} {w w' : World} {pp : Nat} {k : Blk} {s : St} {n ms q : Nat} {ns : List Nat} {Vn : Value} {ts : List Tb} {vs : List Value} {Vt : Value} {Hs : List Tb} {Vh : Value} {Fs : List (Env → Bool)} {xf xg xh xi : Int} {xb : Bool} {A1 A2 A3 : Option Addr} {c1 c2 c3 : Nat} {l1 l2 : List Int} {l3 : List Bool}
set_option maxHeartbeats 16000000 in
set_option maxRecDepth 100000 in
theorem makes8_good (h : PlM D B w pp k s n ms ns Vn ts vs Vt Hs Vh) (P : Pl s n ms q Fs ns ts Hs) (L : Live w k s) (hq : q ≤ 60) (X : ActM B w xf xg xh xi A1 c1 l1 A2 c2 l2 A3 c3 l3) (m : Nat) (hm : m = 2 ^ n) (m1 : List Nat) (hl1 : l1 = encL m1) (hm1 : ∀ x ∈ m1, x < n) (af jf : Nat) (F : Env → Bool) (ef : nodeP ns xf = (af : Int)) (of : ofP ns.length xf = (jf : Int)) (uf : jf < ts.length) (tf : ts[jf]? = some (tab n F)) (nf : Nod s af (lowV n) F) :
    Calls Tryz.prog 9 #[.pointer (some ⟨pp, 0, none⟩), .agg (actC 8 xf xg xh xi xb A1 l1.length c1 A2 l2.length c2 A3 l3.length c3)] w (MkOut D B pp n ms q w) := by
  have HM := hide hm
  have HBW := hide (Nat.le_trans h.lo (Nat.le_of_lt h.lt))
  have hn6 := P.n6
  clear hm
  have Hq1 := hide hl1
  have Hk1 := hide (show knownB n l1 = true from by rw [hl1]; exact knownB_of hm1)
  clear hl1
  have hbx := bel_one w (.cells #[.int .u8 8, .int .i64 xf, .int .i64 xg, .int .i64 xh, .int .i64 xi, .bool xb, .slice A1 l1.length c1, .slice A2 l2.length c2, .slice A3 l3.length c3] 39)
  have HP1 := hide (h.below hbx)
  have hx0 := heap_new w (.cells #[.int .u8 8, .int .i64 xf, .int .i64 xg, .int .i64 xh, .int .i64 xi, .bool xb, .slice A1 l1.length c1, .slice A2 l2.length c2, .slice A3 l3.length c3] 39)
  have HX1 := hide hx0
  have HL1 := hide (L.below hbx)
  have HX2 := hide (X.below hbx)
  have HB1 := hide hbx
  have HN := hide (fun (v : Int) (hv : I64 v) (z : World) (hz : PlM D B z pp k s n ms ns Vn ts vs Vt Hs Vh) => of_any hz P.two (by have := P.sm; omega) v hv)
  have HPL := hide P
  have HI := hide (And.intro X.f (And.intro X.g (And.intro X.h X.i)))
  clear h X L hbx hx0 P
  go_enter Tryz.func9, Tryz.ntmps9
  go_upto_region 1 with fail
  generalize w.alloc (.cells #[.int .u8 8, .int .i64 xf, .int .i64 xg, .int .i64 xh, .int .i64 xi, .bool xb, .slice A1 l1.length c1, .slice A2 l2.length c2, .slice A3 l3.length c3] 39) = w1 at *
  have b1 := lat_cell (cell_heap (j := 1) HX1.out rfl)
  have b2 := lat_cell (cell_heap (j := 2) HX1.out rfl)
  have b3 := lat_cell (cell_heap (j := 3) HX1.out rfl)
  have HF := hide (fun z => HN.out xf HI.out.1 (lat w1 z) (HP1.out.below (lat_below w1 z)))
  have HG := hide (fun z => HN.out xg HI.out.2.1 (lat w1 z) (HP1.out.below (lat_below w1 z)))
  have HH := hide (fun z => HN.out xh HI.out.2.2.1 (lat w1 z) (HP1.out.below (lat_below w1 z)))
  rw [of] at HF
  generalize ofP ns.length xg = yg at *
  generalize ofP ns.length xh = yh at *
  have df : decide ((jf : Int) < 0) = false := decide_eq_false (by omega)
  have Hof := hide of
  have Hef := hide ef
  clear of ef
  clear HN HI
  go_wp2_with fail
  refine wp_region_lat (by kernel_rfl) (by kernel_rfl) ?_
  repeat (first | go_big_quiet_step ((first | (go_at_call 12; with_reducible exact calls_lat_same (HF.out _)) | (go_at_call 12; with_reducible exact calls_lat_same (HG.out _)) | (go_at_call 12; with_reducible exact calls_lat_same (HH.out _)))) | quiet_step ((first | (go_at_call 12; with_reducible exact calls_lat_same (HF.out _)) | (go_at_call 12; with_reducible exact calls_lat_same (HG.out _)) | (go_at_call 12; with_reducible exact calls_lat_same (HH.out _)))))
  refine wpQuiet_nil ?_
  intro _ hlat
  obtain ⟨wq, rfl⟩ := hlat
  have HP2 := hide (HP1.out.below (lat_below w1 wq))
  have hx2 := heapB (lat_below w1 wq) HX1.out
  have HX12 := hide hx2
  have HL2 := hide (HL1.out.below (lat_below w1 wq))
  have HX3 := hide (HX2.out.below (lat_below w1 wq))
  have HB2 := hide (below_wide HB1.out (lat_below w1 wq))
  clear HP1 HX1 HL1 HX2 HB1 b1 b2 b3 HF HG HH
  generalize lat w1 wq = w2 at *
  have hd := cell_heap (j := 0) hx2 rfl
  have hdq := lat_cell hd
  have y6 := lat_cell (cell_heap (j := 6) hx2 rfl)
  have HK1 := hide (fun z => pknown_any (HP2.out.below (lat_below w2 z)) A1 c1 l1 (HX3.out.below (lat_below w2 z)).s1 (len_max HX3.out.n1))
  rw [Hk1.out] at HK1
  clear hx2
  go_wp2_with fail
  simp only [List.append_eq, List.cons_append, List.nil_append]
  refine wp_region_lat (by kernel_rfl) (lex_of (by kernel_rfl) lex7) ?_
  repeat (first | go_big_quiet_step ((first | (go_at_call 26; with_reducible exact calls_lat (HK1.out _)))) | quiet_step ((first | (go_at_call 26; with_reducible exact calls_lat (HK1.out _)))))
  refine wpQuiet_nil ?_
  intro _ hlat
  obtain ⟨wp, rfl⟩ := hlat
  have HP3 := hide (HP2.out.below (lat_below w2 wp))
  have hx3 := heapB (lat_below w2 wp) HX12.out
  have HX13 := hide hx3
  have HL3 := hide (HL2.out.below (lat_below w2 wp))
  have HX4 := hide (HX3.out.below (lat_below w2 wp))
  have HB3 := hide (below_wide HB2.out (lat_below w2 wp))
  clear HP2 HX12 HL2 HX3 HB2 hd hdq y6 HK1
  generalize lat w2 wp = w3 at *
  have z0 := cell_heap (j := 0) hx3 rfl
  have z1 := cell_heap (j := 1) hx3 rfl
  have z2 := cell_heap (j := 2) hx3 rfl
  have z3 := cell_heap (j := 3) hx3 rfl
  have z4 := cell_heap (j := 4) hx3 rfl
  have z5 := cell_heap (j := 5) hx3 rfl
  have z6 := cell_heap (j := 6) hx3 rfl
  have z7 := cell_heap (j := 7) hx3 rfl
  have z8 := cell_heap (j := 8) hx3 rfl
  clear hx3
  have HCALL := hide (call8_good (xb := xb) HP3.out HPL.out HL3.out hq HX4.out m1 Hq1.out hm1 af F Hef.out nf)
  go_wp2_with fail
  refine HCALL.out.mono ?_
  intro e w4 ho
  have hans := HPL.out.answer HL3.out hq ho
  clear ho HCALL z0 z1 z2 z3 z4 z5 z6 z7 z8
  rcases hans with ⟨k4, s4, rfl, L4, T4, P4, hful⟩ | ⟨k4, s4, r, rfl, L4, T4, P4, hok, hr, hcmp⟩
  · have HPF := hide hful
    clear hful
    have HP4 := hide (HP3.out.turn T4 L4.ar)
    have HX14 := hide (T4.heap HX13.out (fp_type HP3.out.ar HX13.out (by decide) (by decide)))
    have HX5 := hide (HX4.out.turn HP3.out T4)
    have HB4 := hide (show Below B w w4 from (HB3.out.mono HBW.out).trans (T4.low HP3.out.fpl (Nat.le_trans HP3.out.lo (Nat.le_of_lt HP3.out.lt))))
    have HL4 := hide L4
    have HPL4 := hide P4
    clear L4 T4 P4 HP3 HX13 HX4 HB3
    have y1 := HP4.out.cell (j := 1) rfl
    go_wp2_with fail
    with_reducible refine (All_t HM.out hn6 false).mono ?_
    rintro e w5 ⟨gno, rfl, hno, hb⟩
    have HP5 := hide (HP4.out.below hb)
    have HX15 := hide (heapB hb HX14.out)
    have HX6 := hide (HX5.out.below hb)
    have HB5 := hide (HB4.out.trans (hb.mono (Nat.le_trans HP4.out.lo (Nat.le_of_lt HP4.out.lt))))
    have HL5 := hide (HL4.out.below hb)
    have HNO := hide hno
    clear hno hb y1 HP4 HX14 HX5 HB4 HL4
    have y1 := HP5.out.cell (j := 1) rfl
    go_wp2_with fail
    with_reducible refine (All_t HM.out hn6 true).mono ?_
    rintro e w6 ⟨gye, rfl, hye, hb⟩
    have HP6 := hide (HP5.out.below hb)
    have HX16 := hide (heapB hb HX15.out)
    have HX7 := hide (HX6.out.below hb)
    have HB6 := hide (HB5.out.trans (hb.mono (Nat.le_trans HP5.out.lo (Nat.le_of_lt HP5.out.lt))))
    have HL6 := hide (HL5.out.below hb)
    have HNO6 := hide (HNO.out.below hb)
    have HYE6 := hide hye
    clear hye hb y1 HP5 HX15 HX6 HB5 HL5 HNO
    have hd6 := cell_heap (j := 0) HX16.out rfl
    have HSX := hide (show Below w6.heap.size w6 w6.drew from (Below.refl _ _).drew)
    obtain ⟨ad, cV, gf, hVt, tcf, hrf⟩ := HP6.out.row HM.out tf
    subst hVt
    have ixf : ((jf : Nat) : Int) < (ts.length : Int) := by omega
    have y4 := HP6.out.cell (j := 4) rfl
    have y1 := HP6.out.cell (j := 1) rfl
    have x6 := cell_heap (j := 6) HX16.out rfl
    have hlm1 : l1.length = m1.length := by rw [Hq1.out, encL_len]
    rw [hlm1] at x6
    clear hlm1
    have HP7 := hide (HP6.out.below HSX.out)
    have HX8 := hide (HX7.out.below HSX.out)
    have HB7 := hide (HB6.out.trans (HSX.out.mono (Nat.le_trans HP6.out.lo (Nat.le_of_lt HP6.out.lt))))
    have HL7 := hide (HL6.out.below HSX.out)
    have HNO7 := hide (HNO6.out.below HSX.out)
    have HYE7 := hide (HYE6.out.below HSX.out)
    have Rf := hide (hrf.below HSX.out)
    have tqf := fun z => cellB (pin_in (S := Below w6.heap.size w6) HSX.out z) tcf
    have q4 := fun z => cellB (pin_in (S := Below w6.heap.size w6) HSX.out z) y4
    have q1 := fun z => cellB (pin_in (S := Below w6.heap.size w6) HSX.out z) y1
    have qd := fun z => cellB (pin_in (S := Below w6.heap.size w6) HSX.out z) hd6
    have qx6 := fun z => cellB (pin_in (S := Below w6.heap.size w6) HSX.out z) x6
    clear hrf tcf y4 y1 x6 HP6 HX7 HB6 HL6 HNO6 HYE6
    go_wp2_with fail
    refine wp_region_tree ((Below w6.heap.size w6)) (fun k => ([] : List Nat).contains k) (.take [0, 1, 2, 3, 4, 5, 6, 7, 8, 9, 10, 11, 12, 13, 14, 15] (.step 16 (.take [17] .done))) (by kernel_rfl) (by kernel_rfl) (by kernel_rfl) (by kernel_rfl) (.take (.cons (.zero) (.cons (.succ (.zero)) (.cons (.succ (.succ (.zero))) (.cons (.succ (.succ (.succ (.zero)))) (.cons (.succ (.succ (.succ (.succ (.zero))))) (.cons (.succ (.succ (.succ (.succ (.succ (.zero)))))) (.cons (.succ (.succ (.succ (.succ (.succ (.succ (.zero))))))) (.cons (.succ (.succ (.succ (.succ (.succ (.succ (.succ (.zero)))))))) (.cons (.succ (.succ (.succ (.succ (.succ (.succ (.succ (.succ (.zero))))))))) (.cons (.succ (.succ (.succ (.succ (.succ (.succ (.succ (.succ (.succ (.zero)))))))))) (.cons (.succ (.succ (.succ (.succ (.succ (.succ (.succ (.succ (.succ (.succ (.zero))))))))))) (.cons (.succ (.succ (.succ (.succ (.succ (.succ (.succ (.succ (.succ (.succ (.succ (.zero)))))))))))) (.cons (.succ (.succ (.succ (.succ (.succ (.succ (.succ (.succ (.succ (.succ (.succ (.succ (.zero))))))))))))) (.cons (.succ (.succ (.succ (.succ (.succ (.succ (.succ (.succ (.succ (.succ (.succ (.succ (.succ (.zero)))))))))))))) (.cons (.succ (.succ (.succ (.succ (.succ (.succ (.succ (.succ (.succ (.succ (.succ (.succ (.succ (.succ (.zero))))))))))))))) (.cons (.succ (.succ (.succ (.succ (.succ (.succ (.succ (.succ (.succ (.succ (.succ (.succ (.succ (.succ (.succ (.zero)))))))))))))))) .nil)))))))))))))))) (.step (.succ (.succ (.succ (.succ (.succ (.succ (.succ (.succ (.succ (.succ (.succ (.succ (.succ (.succ (.succ (.succ (.zero))))))))))))))))) rfl (.take (.cons (.succ (.succ (.succ (.succ (.succ (.succ (.succ (.succ (.succ (.succ (.succ (.succ (.succ (.succ (.succ (.succ (.succ (.zero)))))))))))))))))) .nil) .done))) ?hQ ?hS ?_
    case hQ => exact fun _ _ _ _ _ h => h
    case hS => exact HSX.out
    refine wpT_take ?_
    repeat (first | go_big_quiet_step ((fail)) | quiet_step ((fail)))
    refine wpQuiet_nil ?_
    clear tqf q4 q1 qd qx6 hd6
    generalize w6.drew = x6 at *
    refine wpT_step rfl ?_
    intro K1 hK1
    go_wp2_with fail
    with_reducible refine (Over_t HM.out hn6 Rf.out A1 c1 m1 true (by have := HX8.out.s1; rw [Hq1.out, encL_len] at this; exact this) hm1 (by have := HX8.out.n1; rw [Hq1.out, encL_len] at this; exact len_max this)).mono ?_
    rintro e w7 ⟨gt, rfl, ht, hb⟩
    have HSZ := hide (HSX.out.trans (hb.mono HSX.out.size))
    have HT7 := hide ht
    have HP8 := hide (HP7.out.below hb)
    have HL8 := hide (HL7.out.below hb)
    have HB8 := hide (HB7.out.trans (hb.mono (Nat.le_trans HP7.out.lo (Nat.le_of_lt HP7.out.lt))))
    clear ht hb
    refine hK1.out _ _ (fun _ => pin_mem HSZ.out) ?_
    clear hK1
    refine wpT_take ?_
    repeat (first | go_big_quiet_step ((fail)) | quiet_step ((fail)))
    refine wpQuiet_nil ?_
    refine wpT_done ?_
    go_wp2_with fail
    with_reducible refine (give_full HP8.out HPL4.out HL8.out HM.out HT7.out HPF.out).mono ?_
    intro e w8 ho
    have HO := hide (ho.after HB8.out)
    obtain ⟨he, _⟩ := ho
    subst he
    go_wp2_with fail
    go_ret
    exact HO.out
  · have HPK := hide (And.intro hok (And.intro hr hcmp))
    clear hok hr hcmp
    have HP4 := hide (HP3.out.turn T4 L4.ar)
    have HX14 := hide (T4.heap HX13.out (fp_type HP3.out.ar HX13.out (by decide) (by decide)))
    have HX5 := hide (HX4.out.turn HP3.out T4)
    have HB4 := hide (show Below B w w4 from (HB3.out.mono HBW.out).trans (T4.low HP3.out.fpl (Nat.le_trans HP3.out.lo (Nat.le_of_lt HP3.out.lt))))
    have HL4 := hide L4
    have HPL4 := hide P4
    clear L4 T4 P4 HP3 HX13 HX4 HB3
    have y1 := HP4.out.cell (j := 1) rfl
    go_wp2_with fail
    with_reducible refine (All_t HM.out hn6 false).mono ?_
    rintro e w5 ⟨gno, rfl, hno, hb⟩
    have HP5 := hide (HP4.out.below hb)
    have HX15 := hide (heapB hb HX14.out)
    have HX6 := hide (HX5.out.below hb)
    have HB5 := hide (HB4.out.trans (hb.mono (Nat.le_trans HP4.out.lo (Nat.le_of_lt HP4.out.lt))))
    have HL5 := hide (HL4.out.below hb)
    have HNO := hide hno
    clear hno hb y1 HP4 HX14 HX5 HB4 HL4
    have y1 := HP5.out.cell (j := 1) rfl
    go_wp2_with fail
    with_reducible refine (All_t HM.out hn6 true).mono ?_
    rintro e w6 ⟨gye, rfl, hye, hb⟩
    have HP6 := hide (HP5.out.below hb)
    have HX16 := hide (heapB hb HX15.out)
    have HX7 := hide (HX6.out.below hb)
    have HB6 := hide (HB5.out.trans (hb.mono (Nat.le_trans HP5.out.lo (Nat.le_of_lt HP5.out.lt))))
    have HL6 := hide (HL5.out.below hb)
    have HNO6 := hide (HNO.out.below hb)
    have HYE6 := hide hye
    clear hye hb y1 HP5 HX15 HX6 HB5 HL5 HNO
    have hd6 := cell_heap (j := 0) HX16.out rfl
    have HSX := hide (show Below w6.heap.size w6 w6.drew from (Below.refl _ _).drew)
    obtain ⟨ad, cV, gf, hVt, tcf, hrf⟩ := HP6.out.row HM.out tf
    subst hVt
    have ixf : ((jf : Nat) : Int) < (ts.length : Int) := by omega
    have y4 := HP6.out.cell (j := 4) rfl
    have y1 := HP6.out.cell (j := 1) rfl
    have x6 := cell_heap (j := 6) HX16.out rfl
    have hlm1 : l1.length = m1.length := by rw [Hq1.out, encL_len]
    rw [hlm1] at x6
    clear hlm1
    have HP7 := hide (HP6.out.below HSX.out)
    have HX8 := hide (HX7.out.below HSX.out)
    have HB7 := hide (HB6.out.trans (HSX.out.mono (Nat.le_trans HP6.out.lo (Nat.le_of_lt HP6.out.lt))))
    have HL7 := hide (HL6.out.below HSX.out)
    have HNO7 := hide (HNO6.out.below HSX.out)
    have HYE7 := hide (HYE6.out.below HSX.out)
    have Rf := hide (hrf.below HSX.out)
    have tqf := fun z => cellB (pin_in (S := Below w6.heap.size w6) HSX.out z) tcf
    have q4 := fun z => cellB (pin_in (S := Below w6.heap.size w6) HSX.out z) y4
    have q1 := fun z => cellB (pin_in (S := Below w6.heap.size w6) HSX.out z) y1
    have qd := fun z => cellB (pin_in (S := Below w6.heap.size w6) HSX.out z) hd6
    have qx6 := fun z => cellB (pin_in (S := Below w6.heap.size w6) HSX.out z) x6
    clear hrf tcf y4 y1 x6 HP6 HX7 HB6 HL6 HNO6 HYE6
    go_wp2_with fail
    refine wp_region_tree ((Below w6.heap.size w6)) (fun k => ([] : List Nat).contains k) (.take [0, 1, 2, 3, 4, 5, 6, 7, 8, 9, 10, 11, 12, 13, 14, 15] (.step 16 (.take [17] .done))) (by kernel_rfl) (by kernel_rfl) (by kernel_rfl) (by kernel_rfl) (.take (.cons (.zero) (.cons (.succ (.zero)) (.cons (.succ (.succ (.zero))) (.cons (.succ (.succ (.succ (.zero)))) (.cons (.succ (.succ (.succ (.succ (.zero))))) (.cons (.succ (.succ (.succ (.succ (.succ (.zero)))))) (.cons (.succ (.succ (.succ (.succ (.succ (.succ (.zero))))))) (.cons (.succ (.succ (.succ (.succ (.succ (.succ (.succ (.zero)))))))) (.cons (.succ (.succ (.succ (.succ (.succ (.succ (.succ (.succ (.zero))))))))) (.cons (.succ (.succ (.succ (.succ (.succ (.succ (.succ (.succ (.succ (.zero)))))))))) (.cons (.succ (.succ (.succ (.succ (.succ (.succ (.succ (.succ (.succ (.succ (.zero))))))))))) (.cons (.succ (.succ (.succ (.succ (.succ (.succ (.succ (.succ (.succ (.succ (.succ (.zero)))))))))))) (.cons (.succ (.succ (.succ (.succ (.succ (.succ (.succ (.succ (.succ (.succ (.succ (.succ (.zero))))))))))))) (.cons (.succ (.succ (.succ (.succ (.succ (.succ (.succ (.succ (.succ (.succ (.succ (.succ (.succ (.zero)))))))))))))) (.cons (.succ (.succ (.succ (.succ (.succ (.succ (.succ (.succ (.succ (.succ (.succ (.succ (.succ (.succ (.zero))))))))))))))) (.cons (.succ (.succ (.succ (.succ (.succ (.succ (.succ (.succ (.succ (.succ (.succ (.succ (.succ (.succ (.succ (.zero)))))))))))))))) .nil)))))))))))))))) (.step (.succ (.succ (.succ (.succ (.succ (.succ (.succ (.succ (.succ (.succ (.succ (.succ (.succ (.succ (.succ (.succ (.zero))))))))))))))))) rfl (.take (.cons (.succ (.succ (.succ (.succ (.succ (.succ (.succ (.succ (.succ (.succ (.succ (.succ (.succ (.succ (.succ (.succ (.succ (.zero)))))))))))))))))) .nil) .done))) ?hQ ?hS ?_
    case hQ => exact fun _ _ _ _ _ h => h
    case hS => exact HSX.out
    refine wpT_take ?_
    repeat (first | go_big_quiet_step ((fail)) | quiet_step ((fail)))
    refine wpQuiet_nil ?_
    clear tqf q4 q1 qd qx6 hd6
    generalize w6.drew = x6 at *
    refine wpT_step rfl ?_
    intro K1 hK1
    go_wp2_with fail
    with_reducible refine (Over_t HM.out hn6 Rf.out A1 c1 m1 true (by have := HX8.out.s1; rw [Hq1.out, encL_len] at this; exact this) hm1 (by have := HX8.out.n1; rw [Hq1.out, encL_len] at this; exact len_max this)).mono ?_
    rintro e w7 ⟨gt, rfl, ht, hb⟩
    have HSZ := hide (HSX.out.trans (hb.mono HSX.out.size))
    have HT7 := hide ht
    have HP8 := hide (HP7.out.below hb)
    have HL8 := hide (HL7.out.below hb)
    have HB8 := hide (HB7.out.trans (hb.mono (Nat.le_trans HP7.out.lo (Nat.le_of_lt HP7.out.lt))))
    clear ht hb
    refine hK1.out _ _ (fun _ => pin_mem HSZ.out) ?_
    clear hK1
    refine wpT_take ?_
    repeat (first | go_big_quiet_step ((fail)) | quiet_step ((fail)))
    refine wpQuiet_nil ?_
    refine wpT_done ?_
    go_wp2_with fail
    with_reducible refine (give_ok HP8.out HPL.out HL3.out hq HPL4.out HL8.out HM.out HT7.out HPK.out.1 HPK.out.2.1 HPK.out.2.2).mono ?_
    intro e w8 ho
    have HO := hide (ho.after HB8.out)
    obtain ⟨he, _⟩ := ho
    subst he
    go_wp2_with fail
    go_ret
    exact HO.out
set_option maxHeartbeats 16000000 in
set_option maxRecDepth 100000 in
theorem makes8_bad (h : PlM D B w pp k s n ms ns Vn ts vs Vt Hs Vh) (P : Pl s n ms q Fs ns ts Hs) (L : Live w k s) (hq : q ≤ 60) (X : ActM B w xf xg xh xi A1 c1 l1 A2 c2 l2 A3 c3 l3) (hbad : xf < 0 ∨ knownB n l1 = false) :
    Calls Tryz.prog 9 #[.pointer (some ⟨pp, 0, none⟩), .agg (actC 8 xf xg xh xi xb A1 l1.length c1 A2 l2.length c2 A3 l3.length c3)] w (MkOut D B pp n ms q w) := by
  have HBW := hide (Nat.le_trans h.lo (Nat.le_of_lt h.lt))
  have HBAD := hide hbad
  obtain ⟨jf, hjf⟩ : ∃ j : Int, ofP ns.length xf = j := ⟨_, rfl⟩
  have sf := of_sign (m := ns.length) (x := xf)
  rw [hjf] at sf
  have Hof := hide hjf
  obtain ⟨b1, hb1⟩ : ∃ b, knownB n l1 = b := ⟨_, rfl⟩
  rw [hb1] at hbad
  have Hk1 := hide hb1
  have HW : (decide (jf < 0) = true ∧ b1 = true) ∨ (decide (jf < 0) = true ∧ b1 = false) ∨ (decide (jf < 0) = false ∧ b1 = false) := by
    have hb' := hbad
    rw [show (xf < 0) = (decide (jf < 0) = true) from propext (sf.symm.trans decide_eq_true_iff.symm)] at hb'
    revert hb'
    generalize decide (jf < 0) = v0
    clear HBAD hbad h P L hq X hb1 Hk1
    cases v0 <;> cases b1 <;> simp
  clear hbad sf hjf hb1
  have hbx := bel_one w (.cells #[.int .u8 8, .int .i64 xf, .int .i64 xg, .int .i64 xh, .int .i64 xi, .bool xb, .slice A1 l1.length c1, .slice A2 l2.length c2, .slice A3 l3.length c3] 39)
  have HP1 := hide (h.below hbx)
  have hx0 := heap_new w (.cells #[.int .u8 8, .int .i64 xf, .int .i64 xg, .int .i64 xh, .int .i64 xi, .bool xb, .slice A1 l1.length c1, .slice A2 l2.length c2, .slice A3 l3.length c3] 39)
  have HX1 := hide hx0
  have HL1 := hide (L.below hbx)
  have HX2 := hide (X.below hbx)
  have HB1 := hide hbx
  have HN := hide (fun (v : Int) (hv : I64 v) (z : World) (hz : PlM D B z pp k s n ms ns Vn ts vs Vt Hs Vh) => of_any hz P.two (by have := P.sm; omega) v hv)
  have HPL := hide P
  have HI := hide (And.intro X.f (And.intro X.g (And.intro X.h X.i)))
  clear h X L hbx hx0 P
  go_enter Tryz.func9, Tryz.ntmps9
  go_upto_region 1 with fail
  generalize w.alloc (.cells #[.int .u8 8, .int .i64 xf, .int .i64 xg, .int .i64 xh, .int .i64 xi, .bool xb, .slice A1 l1.length c1, .slice A2 l2.length c2, .slice A3 l3.length c3] 39) = w1 at *
  have b1 := lat_cell (cell_heap (j := 1) HX1.out rfl)
  have b2 := lat_cell (cell_heap (j := 2) HX1.out rfl)
  have b3 := lat_cell (cell_heap (j := 3) HX1.out rfl)
  have HF := hide (fun z => HN.out xf HI.out.1 (lat w1 z) (HP1.out.below (lat_below w1 z)))
  have HG := hide (fun z => HN.out xg HI.out.2.1 (lat w1 z) (HP1.out.below (lat_below w1 z)))
  have HH := hide (fun z => HN.out xh HI.out.2.2.1 (lat w1 z) (HP1.out.below (lat_below w1 z)))
  rw [Hof.out] at HF
  generalize ofP ns.length xg = yg at *
  generalize ofP ns.length xh = yh at *
  rcases HW with ⟨e0, e1⟩ | ⟨e0, e1⟩ | ⟨e0, e1⟩
  all_goals (
    try subst b1
    clear HN HI
    go_wp2_with fail
    refine wp_region_lat (by kernel_rfl) (by kernel_rfl) ?_
    repeat (first | go_big_quiet_step ((first | (go_at_call 12; with_reducible exact calls_lat_same (HF.out _)) | (go_at_call 12; with_reducible exact calls_lat_same (HG.out _)) | (go_at_call 12; with_reducible exact calls_lat_same (HH.out _)))) | quiet_step ((first | (go_at_call 12; with_reducible exact calls_lat_same (HF.out _)) | (go_at_call 12; with_reducible exact calls_lat_same (HG.out _)) | (go_at_call 12; with_reducible exact calls_lat_same (HH.out _)))))
    refine wpQuiet_nil ?_
    intro _ hlat
    obtain ⟨wq, rfl⟩ := hlat
    have HP2 := hide (HP1.out.below (lat_below w1 wq))
    have hx2 := heapB (lat_below w1 wq) HX1.out
    have HX12 := hide hx2
    have HL2 := hide (HL1.out.below (lat_below w1 wq))
    have HX3 := hide (HX2.out.below (lat_below w1 wq))
    have HB2 := hide (below_wide HB1.out (lat_below w1 wq))
    clear HP1 HX1 HL1 HX2 HB1 b1 b2 b3 HF HG HH
    generalize lat w1 wq = w2 at *
    have hd := cell_heap (j := 0) hx2 rfl
    have hdq := lat_cell hd
    have y6 := lat_cell (cell_heap (j := 6) hx2 rfl)
    have HK1 := hide (fun z => pknown_any (HP2.out.below (lat_below w2 z)) A1 c1 l1 (HX3.out.below (lat_below w2 z)).s1 (len_max HX3.out.n1))
    rw [Hk1.out] at HK1
    clear hx2
    go_wp2_with fail
    simp only [List.append_eq, List.cons_append, List.nil_append]
    refine wp_region_lat (by kernel_rfl) (lex_of (by kernel_rfl) lex7) ?_
    repeat (first | go_big_quiet_step ((first | (go_at_call 26; with_reducible exact calls_lat (HK1.out _)))) | quiet_step ((first | (go_at_call 26; with_reducible exact calls_lat (HK1.out _)))))
    refine wpQuiet_nil ?_
    intro _ hlat
    obtain ⟨wp, rfl⟩ := hlat
    have HP3 := hide (HP2.out.below (lat_below w2 wp))
    have hx3 := heapB (lat_below w2 wp) HX12.out
    have HX13 := hide hx3
    have HL3 := hide (HL2.out.below (lat_below w2 wp))
    have HX4 := hide (HX3.out.below (lat_below w2 wp))
    have HB3 := hide (below_wide HB2.out (lat_below w2 wp))
    clear HP2 HX12 HL2 HX3 HB2 hd hdq y6 HK1
    generalize lat w2 wp = w3 at *
    have z0 := cell_heap (j := 0) hx3 rfl
    have z1 := cell_heap (j := 1) hx3 rfl
    have z2 := cell_heap (j := 2) hx3 rfl
    have z3 := cell_heap (j := 3) hx3 rfl
    have z4 := cell_heap (j := 4) hx3 rfl
    have z5 := cell_heap (j := 5) hx3 rfl
    have z6 := cell_heap (j := 6) hx3 rfl
    have z7 := cell_heap (j := 7) hx3 rfl
    have z8 := cell_heap (j := 8) hx3 rfl
    clear hx3
    have HCALL := hide (call8_bad (xb := xb) HP3.out HPL.out HL3.out hq HX4.out HBAD.out)
    go_wp2_with fail
    refine HCALL.out.mono ?_
    rintro e w4 ⟨rfl, hb⟩
    have HP4 := hide (HP3.out.below hb)
    have HL4 := hide (HL3.out.below hb)
    have HB4 := hide ((below_wide HB3.out hb).mono HBW.out)
    clear hb HCALL z0 z1 z2 z3 z4 z5 z6 z7 z8
    go_wp2_with fail
    with_reducible refine (give_no HP4.out HPL.out HL4.out _).mono ?_
    intro e w5 ho
    have HO := hide (ho.after HB4.out)
    obtain ⟨he, _⟩ := ho
    subst he
    go_wp2_with fail
    go_ret
    exact HO.out)
end
end Go.Proofs.YtgfjdkkfgclhjaaGreat.Bd
/- makes, walked for acts of kind 9 (printed by gen_ey.py). -/
namespace Go.Proofs.YtgfjdkkfgclhjaaGreat.Bd
open Go.RowKit Go.Proofs.YtgfjdkkfgclhjaaGreat Go.Proofs.YtgfjdkkfgclhjaaGreat.Lx Go.Maps

section
variable {D : Nat → Array Value → TypeId → Prop} {B : Nat} {w w' : World} {pp : Nat} {k : Blk} {s : St} {n ms q : Nat} {ns : List Nat} {Vn : Value} {ts : List Tb} {vs : List Value} {Vt : Value} {Hs : List Tb} {Vh : Value} {Fs : List (Env → Bool)} {xf xg xh xi : Int} {xb : Bool} {A1 A2 A3 : Option Addr} {c1 c2 c3 : Nat} {l1 l2 : List Int} {l3 : List Bool}
set_option maxHeartbeats 16000000 in
set_option maxRecDepth 100000 in
theorem makes9_good (h : PlM D B w pp k s n ms ns Vn ts vs Vt Hs Vh) (P : Pl s n ms q Fs ns ts Hs) (L : Live w k s) (hq : q ≤ 60) (X : ActM B w xf xg xh xi A1 c1 l1 A2 c2 l2 A3 c3 l3) (m : Nat) (hm : m = 2 ^ n) (m1 : List Nat) (hl1 : l1 = encL m1) (hm1 : ∀ x ∈ m1, x < n) (m2 : List Nat) (hl2 : l2 = encL m2) (hm2 : ∀ x ∈ m2, x < n) (he : m1.length = m2.length) (hnd : m1.Nodup) (af jf : Nat) (F : Env → Bool) (ef : nodeP ns xf = (af : Int)) (of : ofP ns.length xf = (jf : Int)) (uf : jf < ts.length) (tf : ts[jf]? = some (tab n F)) (nf : Nod s af (lowV n) F) :
    Calls Tryz.prog 9 #[.pointer (some ⟨pp, 0, none⟩), .agg (actC 9 xf xg xh xi xb A1 l1.length c1 A2 l2.length c2 A3 l3.length c3)] w (MkOut D B pp n ms q w) := by
  have HM := hide hm
  have HBW := hide (Nat.le_trans h.lo (Nat.le_of_lt h.lt))
  have hn6 := P.n6
  clear hm
  have Hq1 := hide hl1
  have Hk1 := hide (show knownB n l1 = true from by rw [hl1]; exact knownB_of hm1)
  clear hl1
  have Hq2 := hide hl2
  have Hqe := hide he
  have Hk2 := hide (show knownB n l2 = true from by rw [hl2]; exact knownB_of hm2)
  have Htw := hide (show l1.Nodup from by rw [Hq1.out]; exact nodup_enc.2 hnd)
  have hne : ((l1.length : Int) != (l2.length : Int)) = false := by rw [Hq1.out, hl2, encL_len, encL_len, he]; simp
  clear hl2 he
  have hbx := bel_one w (.cells #[.int .u8 9, .int .i64 xf, .int .i64 xg, .int .i64 xh, .int .i64 xi, .bool xb, .slice A1 l1.length c1, .slice A2 l2.length c2, .slice A3 l3.length c3] 39)
  have HP1 := hide (h.below hbx)
  have hx0 := heap_new w (.cells #[.int .u8 9, .int .i64 xf, .int .i64 xg, .int .i64 xh, .int .i64 xi, .bool xb, .slice A1 l1.length c1, .slice A2 l2.length c2, .slice A3 l3.length c3] 39)
  have HX1 := hide hx0
  have HL1 := hide (L.below hbx)
  have HX2 := hide (X.below hbx)
  have HB1 := hide hbx
  have HN := hide (fun (v : Int) (hv : I64 v) (z : World) (hz : PlM D B z pp k s n ms ns Vn ts vs Vt Hs Vh) => of_any hz P.two (by have := P.sm; omega) v hv)
  have HPL := hide P
  have HI := hide (And.intro X.f (And.intro X.g (And.intro X.h X.i)))
  clear h X L hbx hx0 P
  go_enter Tryz.func9, Tryz.ntmps9
  go_upto_region 1 with fail
  generalize w.alloc (.cells #[.int .u8 9, .int .i64 xf, .int .i64 xg, .int .i64 xh, .int .i64 xi, .bool xb, .slice A1 l1.length c1, .slice A2 l2.length c2, .slice A3 l3.length c3] 39) = w1 at *
  have b1 := lat_cell (cell_heap (j := 1) HX1.out rfl)
  have b2 := lat_cell (cell_heap (j := 2) HX1.out rfl)
  have b3 := lat_cell (cell_heap (j := 3) HX1.out rfl)
  have HF := hide (fun z => HN.out xf HI.out.1 (lat w1 z) (HP1.out.below (lat_below w1 z)))
  have HG := hide (fun z => HN.out xg HI.out.2.1 (lat w1 z) (HP1.out.below (lat_below w1 z)))
  have HH := hide (fun z => HN.out xh HI.out.2.2.1 (lat w1 z) (HP1.out.below (lat_below w1 z)))
  rw [of] at HF
  generalize ofP ns.length xg = yg at *
  generalize ofP ns.length xh = yh at *
  have df : decide ((jf : Int) < 0) = false := decide_eq_false (by omega)
  have Hof := hide of
  have Hef := hide ef
  clear of ef
  clear HN HI
  go_wp2_with fail
  refine wp_region_lat (by kernel_rfl) (by kernel_rfl) ?_
  repeat (first | go_big_quiet_step ((first | (go_at_call 12; with_reducible exact calls_lat_same (HF.out _)) | (go_at_call 12; with_reducible exact calls_lat_same (HG.out _)) | (go_at_call 12; with_reducible exact calls_lat_same (HH.out _)))) | quiet_step ((first | (go_at_call 12; with_reducible exact calls_lat_same (HF.out _)) | (go_at_call 12; with_reducible exact calls_lat_same (HG.out _)) | (go_at_call 12; with_reducible exact calls_lat_same (HH.out _)))))
  refine wpQuiet_nil ?_
  intro _ hlat
  obtain ⟨wq, rfl⟩ := hlat
  have HP2 := hide (HP1.out.below (lat_below w1 wq))
  have hx2 := heapB (lat_below w1 wq) HX1.out
  have HX12 := hide hx2
  have HL2 := hide (HL1.out.below (lat_below w1 wq))
  have HX3 := hide (HX2.out.below (lat_below w1 wq))
  have HB2 := hide (below_wide HB1.out (lat_below w1 wq))
  clear HP1 HX1 HL1 HX2 HB1 b1 b2 b3 HF HG HH
  generalize lat w1 wq = w2 at *
  have hd := cell_heap (j := 0) hx2 rfl
  have hdq := lat_cell hd
  have y6 := lat_cell (cell_heap (j := 6) hx2 rfl)
  have HK1 := hide (fun z => pknown_any (HP2.out.below (lat_below w2 z)) A1 c1 l1 (HX3.out.below (lat_below w2 z)).s1 (len_max HX3.out.n1))
  have y7 := lat_cell (cell_heap (j := 7) hx2 rfl)
  have HK2 := hide (fun z => pknown_any (HP2.out.below (lat_below w2 z)) A2 c2 l2 (HX3.out.below (lat_below w2 z)).s2 (len_max HX3.out.n2))
  have HTW := hide (fun z => (twice_any A1 c1 l1 (lat w2 z) (HX3.out.below (lat_below w2 z)).s1 (len_max HX3.out.n1)).mono (fun e w' (hh : (∃ b, e = .returned (.bool b) ∧ (b = true ↔ ¬ l1.Nodup)) ∧ Below (lat w2 z).heap.size (lat w2 z) w') => (show e = .returned (.bool false) ∧ Below (lat w2 z).heap.size (lat w2 z) w' from by
    obtain ⟨⟨b, he, hb⟩, hbl⟩ := hh
    refine ⟨?_, hbl⟩
    cases b with
    | true => exact absurd Htw.out (hb.1 rfl)
    | false => exact he)))
  rw [Hk1.out] at HK1
  rw [Hk2.out] at HK2
  clear hx2
  go_wp2_with fail
  simp only [List.append_eq, List.cons_append, List.nil_append]
  refine wp_region_lat (by kernel_rfl) (lex_of (by kernel_rfl) lex7) ?_
  repeat (first | go_big_quiet_step ((first | (go_at_call 26; with_reducible exact calls_lat (HK1.out _)) | (go_at_call 26; with_reducible exact calls_lat (HK2.out _)) | (go_at_call 27; with_reducible exact calls_lat (HTW.out _)))) | quiet_step ((first | (go_at_call 26; with_reducible exact calls_lat (HK1.out _)) | (go_at_call 26; with_reducible exact calls_lat (HK2.out _)) | (go_at_call 27; with_reducible exact calls_lat (HTW.out _)))))
  refine wpQuiet_nil ?_
  intro _ hlat
  obtain ⟨wp, rfl⟩ := hlat
  have HP3 := hide (HP2.out.below (lat_below w2 wp))
  have hx3 := heapB (lat_below w2 wp) HX12.out
  have HX13 := hide hx3
  have HL3 := hide (HL2.out.below (lat_below w2 wp))
  have HX4 := hide (HX3.out.below (lat_below w2 wp))
  have HB3 := hide (below_wide HB2.out (lat_below w2 wp))
  clear HP2 HX12 HL2 HX3 HB2 hd hdq y6 HK1 y7 HK2 HTW
  generalize lat w2 wp = w3 at *
  have z0 := cell_heap (j := 0) hx3 rfl
  have z1 := cell_heap (j := 1) hx3 rfl
  have z2 := cell_heap (j := 2) hx3 rfl
  have z3 := cell_heap (j := 3) hx3 rfl
  have z4 := cell_heap (j := 4) hx3 rfl
  have z5 := cell_heap (j := 5) hx3 rfl
  have z6 := cell_heap (j := 6) hx3 rfl
  have z7 := cell_heap (j := 7) hx3 rfl
  have z8 := cell_heap (j := 8) hx3 rfl
  clear hx3
  have HCALL := hide (call9_good (xb := xb) HP3.out HPL.out HL3.out hq HX4.out m1 Hq1.out hm1 m2 Hq2.out hm2 Hqe.out hnd af F Hef.out nf)
  go_wp2_with fail
  refine HCALL.out.mono ?_
  intro e w4 ho
  have hans := HPL.out.answer HL3.out hq ho
  clear ho HCALL z0 z1 z2 z3 z4 z5 z6 z7 z8
  rcases hans with ⟨k4, s4, rfl, L4, T4, P4, hful⟩ | ⟨k4, s4, r, rfl, L4, T4, P4, hok, hr, hcmp⟩
  · have HPF := hide hful
    clear hful
    have HP4 := hide (HP3.out.turn T4 L4.ar)
    have HX14 := hide (T4.heap HX13.out (fp_type HP3.out.ar HX13.out (by decide) (by decide)))
    have HX5 := hide (HX4.out.turn HP3.out T4)
    have HB4 := hide (show Below B w w4 from (HB3.out.mono HBW.out).trans (T4.low HP3.out.fpl (Nat.le_trans HP3.out.lo (Nat.le_of_lt HP3.out.lt))))
    have HL4 := hide L4
    have HPL4 := hide P4
    clear L4 T4 P4 HP3 HX13 HX4 HB3
    have y1 := HP4.out.cell (j := 1) rfl
    go_wp2_with fail
    with_reducible refine (All_t HM.out hn6 false).mono ?_
    rintro e w5 ⟨gno, rfl, hno, hb⟩
    have HP5 := hide (HP4.out.below hb)
    have HX15 := hide (heapB hb HX14.out)
    have HX6 := hide (HX5.out.below hb)
    have HB5 := hide (HB4.out.trans (hb.mono (Nat.le_trans HP4.out.lo (Nat.le_of_lt HP4.out.lt))))
    have HL5 := hide (HL4.out.below hb)
    have HNO := hide hno
    clear hno hb y1 HP4 HX14 HX5 HB4 HL4
    have y1 := HP5.out.cell (j := 1) rfl
    go_wp2_with fail
    with_reducible refine (All_t HM.out hn6 true).mono ?_
    rintro e w6 ⟨gye, rfl, hye, hb⟩
    have HP6 := hide (HP5.out.below hb)
    have HX16 := hide (heapB hb HX15.out)
    have HX7 := hide (HX6.out.below hb)
    have HB6 := hide (HB5.out.trans (hb.mono (Nat.le_trans HP5.out.lo (Nat.le_of_lt HP5.out.lt))))
    have HL6 := hide (HL5.out.below hb)
    have HNO6 := hide (HNO.out.below hb)
    have HYE6 := hide hye
    clear hye hb y1 HP5 HX15 HX6 HB5 HL5 HNO
    have hd6 := cell_heap (j := 0) HX16.out rfl
    have HSX := hide (show Below w6.heap.size w6 w6.drew from (Below.refl _ _).drew)
    obtain ⟨ad, cV, gf, hVt, tcf, hrf⟩ := HP6.out.row HM.out tf
    subst hVt
    have ixf : ((jf : Nat) : Int) < (ts.length : Int) := by omega
    have y4 := HP6.out.cell (j := 4) rfl
    have y1 := HP6.out.cell (j := 1) rfl
    have x6 := cell_heap (j := 6) HX16.out rfl
    have x7 := cell_heap (j := 7) HX16.out rfl
    have hlm1 : l1.length = m1.length := by rw [Hq1.out, encL_len]
    rw [hlm1] at x6
    have hlm2 : l2.length = m2.length := by rw [Hq2.out, encL_len]
    rw [hlm2] at x7
    clear hlm1
    clear hlm2
    have HP7 := hide (HP6.out.below HSX.out)
    have HX8 := hide (HX7.out.below HSX.out)
    have HB7 := hide (HB6.out.trans (HSX.out.mono (Nat.le_trans HP6.out.lo (Nat.le_of_lt HP6.out.lt))))
    have HL7 := hide (HL6.out.below HSX.out)
    have HNO7 := hide (HNO6.out.below HSX.out)
    have HYE7 := hide (HYE6.out.below HSX.out)
    have Rf := hide (hrf.below HSX.out)
    have tqf := fun z => cellB (pin_in (S := Below w6.heap.size w6) HSX.out z) tcf
    have q4 := fun z => cellB (pin_in (S := Below w6.heap.size w6) HSX.out z) y4
    have q1 := fun z => cellB (pin_in (S := Below w6.heap.size w6) HSX.out z) y1
    have qx6 := fun z => cellB (pin_in (S := Below w6.heap.size w6) HSX.out z) x6
    have qx7 := fun z => cellB (pin_in (S := Below w6.heap.size w6) HSX.out z) x7
    clear hrf tcf y4 y1 x6 x7 HP6 HX7 HB6 HL6 HNO6 HYE6
    go_wp2_with fail
    refine wp_region_tree ((Below w6.heap.size w6)) (fun k => ([] : List Nat).contains k) (.take [0, 1, 2, 3, 4, 5, 6, 7, 8, 9, 10, 11, 12, 13, 14] (.step 15 (.take [16] .done))) (by kernel_rfl) (by kernel_rfl) (by kernel_rfl) (by kernel_rfl) (.take (.cons (.zero) (.cons (.succ (.zero)) (.cons (.succ (.succ (.zero))) (.cons (.succ (.succ (.succ (.zero)))) (.cons (.succ (.succ (.succ (.succ (.zero))))) (.cons (.succ (.succ (.succ (.succ (.succ (.zero)))))) (.cons (.succ (.succ (.succ (.succ (.succ (.succ (.zero))))))) (.cons (.succ (.succ (.succ (.succ (.succ (.succ (.succ (.zero)))))))) (.cons (.succ (.succ (.succ (.succ (.succ (.succ (.succ (.succ (.zero))))))))) (.cons (.succ (.succ (.succ (.succ (.succ (.succ (.succ (.succ (.succ (.zero)))))))))) (.cons (.succ (.succ (.succ (.succ (.succ (.succ (.succ (.succ (.succ (.succ (.zero))))))))))) (.cons (.succ (.succ (.succ (.succ (.succ (.succ (.succ (.succ (.succ (.succ (.succ (.zero)))))))))))) (.cons (.succ (.succ (.succ (.succ (.succ (.succ (.succ (.succ (.succ (.succ (.succ (.succ (.zero))))))))))))) (.cons (.succ (.succ (.succ (.succ (.succ (.succ (.succ (.succ (.succ (.succ (.succ (.succ (.succ (.zero)))))))))))))) (.cons (.succ (.succ (.succ (.succ (.succ (.succ (.succ (.succ (.succ (.succ (.succ (.succ (.succ (.succ (.zero))))))))))))))) .nil))))))))))))))) (.step (.succ (.succ (.succ (.succ (.succ (.succ (.succ (.succ (.succ (.succ (.succ (.succ (.succ (.succ (.succ (.zero)))))))))))))))) rfl (.take (.cons (.succ (.succ (.succ (.succ (.succ (.succ (.succ (.succ (.succ (.succ (.succ (.succ (.succ (.succ (.succ (.succ (.zero))))))))))))))))) .nil) .done))) ?hQ ?hS ?_
    case hQ => exact fun _ _ _ _ _ h => h
    case hS => exact HSX.out
    refine wpT_take ?_
    repeat (first | go_big_quiet_step ((fail)) | quiet_step ((fail)))
    refine wpQuiet_nil ?_
    clear tqf q4 q1 qx6 qx7 hd6
    generalize w6.drew = x6 at *
    refine wpT_step rfl ?_
    intro K1 hK1
    go_wp2_with fail
    with_reducible refine (Rename_t HM.out hn6 Rf.out A1 A2 c1 c2 m1 m2 (by have := HX8.out.s1; rw [Hq1.out, encL_len] at this; exact this) (by have := HX8.out.s2; rw [Hq2.out, encL_len] at this; exact this) Hqe.out hnd hm1 hm2).mono ?_
    rintro e w7 ⟨gt, rfl, ht, hb⟩
    have HSZ := hide (HSX.out.trans (hb.mono HSX.out.size))
    have HT7 := hide ht
    have HP8 := hide (HP7.out.below hb)
    have HL8 := hide (HL7.out.below hb)
    have HB8 := hide (HB7.out.trans (hb.mono (Nat.le_trans HP7.out.lo (Nat.le_of_lt HP7.out.lt))))
    clear ht hb
    refine hK1.out _ _ (fun _ => pin_mem HSZ.out) ?_
    clear hK1
    refine wpT_take ?_
    repeat (first | go_big_quiet_step ((fail)) | quiet_step ((fail)))
    refine wpQuiet_nil ?_
    refine wpT_done ?_
    go_wp2_with fail
    with_reducible refine (give_full HP8.out HPL4.out HL8.out HM.out HT7.out HPF.out).mono ?_
    intro e w8 ho
    have HO := hide (ho.after HB8.out)
    obtain ⟨he, _⟩ := ho
    subst he
    go_wp2_with fail
    go_ret
    exact HO.out
  · have HPK := hide (And.intro hok (And.intro hr hcmp))
    clear hok hr hcmp
    have HP4 := hide (HP3.out.turn T4 L4.ar)
    have HX14 := hide (T4.heap HX13.out (fp_type HP3.out.ar HX13.out (by decide) (by decide)))
    have HX5 := hide (HX4.out.turn HP3.out T4)
    have HB4 := hide (show Below B w w4 from (HB3.out.mono HBW.out).trans (T4.low HP3.out.fpl (Nat.le_trans HP3.out.lo (Nat.le_of_lt HP3.out.lt))))
    have HL4 := hide L4
    have HPL4 := hide P4
    clear L4 T4 P4 HP3 HX13 HX4 HB3
    have y1 := HP4.out.cell (j := 1) rfl
    go_wp2_with fail
    with_reducible refine (All_t HM.out hn6 false).mono ?_
    rintro e w5 ⟨gno, rfl, hno, hb⟩
    have HP5 := hide (HP4.out.below hb)
    have HX15 := hide (heapB hb HX14.out)
    have HX6 := hide (HX5.out.below hb)
    have HB5 := hide (HB4.out.trans (hb.mono (Nat.le_trans HP4.out.lo (Nat.le_of_lt HP4.out.lt))))
    have HL5 := hide (HL4.out.below hb)
    have HNO := hide hno
    clear hno hb y1 HP4 HX14 HX5 HB4 HL4
    have y1 := HP5.out.cell (j := 1) rfl
    go_wp2_with fail
    with_reducible refine (All_t HM.out hn6 true).mono ?_
    rintro e w6 ⟨gye, rfl, hye, hb⟩
    have HP6 := hide (HP5.out.below hb)
    have HX16 := hide (heapB hb HX15.out)
    have HX7 := hide (HX6.out.below hb)
    have HB6 := hide (HB5.out.trans (hb.mono (Nat.le_trans HP5.out.lo (Nat.le_of_lt HP5.out.lt))))
    have HL6 := hide (HL5.out.below hb)
    have HNO6 := hide (HNO.out.below hb)
    have HYE6 := hide hye
    clear hye hb y1 HP5 HX15 HX6 HB5 HL5 HNO
    have hd6 := cell_heap (j := 0) HX16.out rfl
    have HSX := hide (show Below w6.heap.size w6 w6.drew from (Below.refl _ _).drew)
    obtain ⟨ad, cV, gf, hVt, tcf, hrf⟩ := HP6.out.row HM.out tf
    subst hVt
    have ixf : ((jf : Nat) : Int) < (ts.length : Int) := by omega
    have y4 := HP6.out.cell (j := 4) rfl
    have y1 := HP6.out.cell (j := 1) rfl
    have x6 := cell_heap (j := 6) HX16.out rfl
    have x7 := cell_heap (j := 7) HX16.out rfl
    have hlm1 : l1.length = m1.length := by rw [Hq1.out, encL_len]
    rw [hlm1] at x6
    have hlm2 : l2.length = m2.length := by rw [Hq2.out, encL_len]
    rw [hlm2] at x7
    clear hlm1
    clear hlm2
    have HP7 := hide (HP6.out.below HSX.out)
    have HX8 := hide (HX7.out.below HSX.out)
    have HB7 := hide (HB6.out.trans (HSX.out.mono (Nat.le_trans HP6.out.lo (Nat.le_of_lt HP6.out.lt))))
    have HL7 := hide (HL6.out.below HSX.out)
    have HNO7 := hide (HNO6.out.below HSX.out)
    have HYE7 := hide (HYE6.out.below HSX.out)
    have Rf := hide (hrf.below HSX.out)
    have tqf := fun z => cellB (pin_in (S := Below w6.heap.size w6) HSX.out z) tcf
    have q4 := fun z => cellB (pin_in (S := Below w6.heap.size w6) HSX.out z) y4
    have q1 := fun z => cellB (pin_in (S := Below w6.heap.size w6) HSX.out z) y1
    have qx6 := fun z => cellB (pin_in (S := Below w6.heap.size w6) HSX.out z) x6
    have qx7 := fun z => cellB (pin_in (S := Below w6.heap.size w6) HSX.out z) x7
    clear hrf tcf y4 y1 x6 x7 HP6 HX7 HB6 HL6 HNO6 HYE6
    go_wp2_with fail
    refine wp_region_tree ((Below w6.heap.size w6)) (fun k => ([] : List Nat).contains k) (.take [0, 1, 2, 3, 4, 5, 6, 7, 8, 9, 10, 11, 12, 13, 14] (.step 15 (.take [16] .done))) (by kernel_rfl) (by kernel_rfl) (by kernel_rfl) (by kernel_rfl) (.take (.cons (.zero) (.cons (.succ (.zero)) (.cons (.succ (.succ (.zero))) (.cons (.succ (.succ (.succ (.zero)))) (.cons (.succ (.succ (.succ (.succ (.zero))))) (.cons (.succ (.succ (.succ (.succ (.succ (.zero)))))) (.cons (.succ (.succ (.succ (.succ (.succ (.succ (.zero))))))) (.cons (.succ (.succ (.succ (.succ (.succ (.succ (.succ (.zero)))))))) (.cons (.succ (.succ (.succ (.succ (.succ (.succ (.succ (.succ (.zero))))))))) (.cons (.succ (.succ (.succ (.succ (.succ (.succ (.succ (.succ (.succ (.zero)))))))))) (.cons (.succ (.succ (.succ (.succ (.succ (.succ (.succ (.succ (.succ (.succ (.zero))))))))))) (.cons (.succ (.succ (.succ (.succ (.succ (.succ (.succ (.succ (.succ (.succ (.succ (.zero)))))))))))) (.cons (.succ (.succ (.succ (.succ (.succ (.succ (.succ (.succ (.succ (.succ (.succ (.succ (.zero))))))))))))) (.cons (.succ (.succ (.succ (.succ (.succ (.succ (.succ (.succ (.succ (.succ (.succ (.succ (.succ (.zero)))))))))))))) (.cons (.succ (.succ (.succ (.succ (.succ (.succ (.succ (.succ (.succ (.succ (.succ (.succ (.succ (.succ (.zero))))))))))))))) .nil))))))))))))))) (.step (.succ (.succ (.succ (.succ (.succ (.succ (.succ (.succ (.succ (.succ (.succ (.succ (.succ (.succ (.succ (.zero)))))))))))))))) rfl (.take (.cons (.succ (.succ (.succ (.succ (.succ (.succ (.succ (.succ (.succ (.succ (.succ (.succ (.succ (.succ (.succ (.succ (.zero))))))))))))))))) .nil) .done))) ?hQ ?hS ?_
    case hQ => exact fun _ _ _ _ _ h => h
    case hS => exact HSX.out
    refine wpT_take ?_
    repeat (first | go_big_quiet_step ((fail)) | quiet_step ((fail)))
    refine wpQuiet_nil ?_
    clear tqf q4 q1 qx6 qx7 hd6
    generalize w6.drew = x6 at *
    refine wpT_step rfl ?_
    intro K1 hK1
    go_wp2_with fail
    with_reducible refine (Rename_t HM.out hn6 Rf.out A1 A2 c1 c2 m1 m2 (by have := HX8.out.s1; rw [Hq1.out, encL_len] at this; exact this) (by have := HX8.out.s2; rw [Hq2.out, encL_len] at this; exact this) Hqe.out hnd hm1 hm2).mono ?_
    rintro e w7 ⟨gt, rfl, ht, hb⟩
    have HSZ := hide (HSX.out.trans (hb.mono HSX.out.size))
    have HT7 := hide ht
    have HP8 := hide (HP7.out.below hb)
    have HL8 := hide (HL7.out.below hb)
    have HB8 := hide (HB7.out.trans (hb.mono (Nat.le_trans HP7.out.lo (Nat.le_of_lt HP7.out.lt))))
    clear ht hb
    refine hK1.out _ _ (fun _ => pin_mem HSZ.out) ?_
    clear hK1
    refine wpT_take ?_
    repeat (first | go_big_quiet_step ((fail)) | quiet_step ((fail)))
    refine wpQuiet_nil ?_
    refine wpT_done ?_
    go_wp2_with fail
    with_reducible refine (give_ok HP8.out HPL.out HL3.out hq HPL4.out HL8.out HM.out HT7.out HPK.out.1 HPK.out.2.1 HPK.out.2.2).mono ?_
    intro e w8 ho
    have HO := hide (ho.after HB8.out)
    obtain ⟨he, _⟩ := ho
    subst he
    go_wp2_with fail
    go_ret
    exact HO.out
set_option maxHeartbeats 16000000 in
set_option maxRecDepth 100000 in
theorem makes9_bad (h : PlM D B w pp k s n ms ns Vn ts vs Vt Hs Vh) (P : Pl s n ms q Fs ns ts Hs) (L : Live w k s) (hq : q ≤ 60) (X : ActM B w xf xg xh xi A1 c1 l1 A2 c2 l2 A3 c3 l3) (hbad : xf < 0 ∨ l1.length ≠ l2.length ∨ knownB n l1 = false ∨ knownB n l2 = false ∨ ¬ l1.Nodup) :
    Calls Tryz.prog 9 #[.pointer (some ⟨pp, 0, none⟩), .agg (actC 9 xf xg xh xi xb A1 l1.length c1 A2 l2.length c2 A3 l3.length c3)] w (MkOut D B pp n ms q w) := by
  have HBW := hide (Nat.le_trans h.lo (Nat.le_of_lt h.lt))
  have HBAD := hide hbad
  obtain ⟨jf, hjf⟩ : ∃ j : Int, ofP ns.length xf = j := ⟨_, rfl⟩
  have sf := of_sign (m := ns.length) (x := xf)
  rw [hjf] at sf
  have Hof := hide hjf
  obtain ⟨b1, hb1⟩ : ∃ b, knownB n l1 = b := ⟨_, rfl⟩
  rw [hb1] at hbad
  have Hk1 := hide hb1
  obtain ⟨b2, hb2⟩ : ∃ b, knownB n l2 = b := ⟨_, rfl⟩
  rw [hb2] at hbad
  have Hk2 := hide hb2
  obtain ⟨tw, htw⟩ : ∃ b : Bool, (b = true ↔ ¬ l1.Nodup) := ⟨decide (¬ l1.Nodup), decide_eq_true_iff⟩
  rw [← htw] at hbad
  have Htw := hide (show TwP l1 tw from htw)
  obtain ⟨dl, hdl⟩ : ∃ b : Bool, ((l1.length : Int) != (l2.length : Int)) = b := ⟨_, rfl⟩
  have hdl2 : dl = true ↔ l1.length ≠ l2.length := by rw [← hdl, bne_iff_ne]; omega
  rw [← hdl2] at hbad
  have HW : (decide (jf < 0) = true ∧ dl = true) ∨ (decide (jf < 0) = true ∧ dl = false ∧ b1 = false) ∨ (decide (jf < 0) = true ∧ dl = false ∧ b1 = true ∧ b2 = false) ∨ (decide (jf < 0) = true ∧ dl = false ∧ b1 = true ∧ b2 = true ∧ tw = true) ∨ (decide (jf < 0) = true ∧ dl = false ∧ b1 = true ∧ b2 = true ∧ tw = false) ∨ (decide (jf < 0) = false ∧ dl = true) ∨ (decide (jf < 0) = false ∧ dl = false ∧ b1 = false) ∨ (decide (jf < 0) = false ∧ dl = false ∧ b1 = true ∧ b2 = false) ∨ (decide (jf < 0) = false ∧ dl = false ∧ b1 = true ∧ b2 = true ∧ tw = true) := by
    have hb' := hbad
    rw [show (xf < 0) = (decide (jf < 0) = true) from propext (sf.symm.trans decide_eq_true_iff.symm)] at hb'
    revert hb'
    generalize decide (jf < 0) = v0
    clear HBAD hbad h P L hq X hb1 Hk1 hb2 Hk2 htw Htw hdl hdl2
    cases v0 <;> cases b1 <;> cases dl <;> cases b2 <;> cases tw <;> simp
  clear hbad sf hjf hb1 hb2 htw hdl2
  have hbx := bel_one w (.cells #[.int .u8 9, .int .i64 xf, .int .i64 xg, .int .i64 xh, .int .i64 xi, .bool xb, .slice A1 l1.length c1, .slice A2 l2.length c2, .slice A3 l3.length c3] 39)
  have HP1 := hide (h.below hbx)
  have hx0 := heap_new w (.cells #[.int .u8 9, .int .i64 xf, .int .i64 xg, .int .i64 xh, .int .i64 xi, .bool xb, .slice A1 l1.length c1, .slice A2 l2.length c2, .slice A3 l3.length c3] 39)
  have HX1 := hide hx0
  have HL1 := hide (L.below hbx)
  have HX2 := hide (X.below hbx)
  have HB1 := hide hbx
  have HN := hide (fun (v : Int) (hv : I64 v) (z : World) (hz : PlM D B z pp k s n ms ns Vn ts vs Vt Hs Vh) => of_any hz P.two (by have := P.sm; omega) v hv)
  have HPL := hide P
  have HI := hide (And.intro X.f (And.intro X.g (And.intro X.h X.i)))
  clear h X L hbx hx0 P
  go_enter Tryz.func9, Tryz.ntmps9
  go_upto_region 1 with fail
  generalize w.alloc (.cells #[.int .u8 9, .int .i64 xf, .int .i64 xg, .int .i64 xh, .int .i64 xi, .bool xb, .slice A1 l1.length c1, .slice A2 l2.length c2, .slice A3 l3.length c3] 39) = w1 at *
  have b1 := lat_cell (cell_heap (j := 1) HX1.out rfl)
  have b2 := lat_cell (cell_heap (j := 2) HX1.out rfl)
  have b3 := lat_cell (cell_heap (j := 3) HX1.out rfl)
  have HF := hide (fun z => HN.out xf HI.out.1 (lat w1 z) (HP1.out.below (lat_below w1 z)))
  have HG := hide (fun z => HN.out xg HI.out.2.1 (lat w1 z) (HP1.out.below (lat_below w1 z)))
  have HH := hide (fun z => HN.out xh HI.out.2.2.1 (lat w1 z) (HP1.out.below (lat_below w1 z)))
  rw [Hof.out] at HF
  generalize ofP ns.length xg = yg at *
  generalize ofP ns.length xh = yh at *
  rcases HW with ⟨e0, e1⟩ | ⟨e0, e1, e2⟩ | ⟨e0, e1, e2, e3⟩ | ⟨e0, e1, e2, e3, e4⟩ | ⟨e0, e1, e2, e3, e4⟩ | ⟨e0, e1⟩ | ⟨e0, e1, e2⟩ | ⟨e0, e1, e2, e3⟩ | ⟨e0, e1, e2, e3, e4⟩
  all_goals (
    try subst b2
    try subst tw
    try subst dl
    try subst b1
    clear HN HI
    go_wp2_with fail
    refine wp_region_lat (by kernel_rfl) (by kernel_rfl) ?_
    repeat (first | go_big_quiet_step ((first | (go_at_call 12; with_reducible exact calls_lat_same (HF.out _)) | (go_at_call 12; with_reducible exact calls_lat_same (HG.out _)) | (go_at_call 12; with_reducible exact calls_lat_same (HH.out _)))) | quiet_step ((first | (go_at_call 12; with_reducible exact calls_lat_same (HF.out _)) | (go_at_call 12; with_reducible exact calls_lat_same (HG.out _)) | (go_at_call 12; with_reducible exact calls_lat_same (HH.out _)))))
    refine wpQuiet_nil ?_
    intro _ hlat
    obtain ⟨wq, rfl⟩ := hlat
    have HP2 := hide (HP1.out.below (lat_below w1 wq))
    have hx2 := heapB (lat_below w1 wq) HX1.out
    have HX12 := hide hx2
    have HL2 := hide (HL1.out.below (lat_below w1 wq))
    have HX3 := hide (HX2.out.below (lat_below w1 wq))
    have HB2 := hide (below_wide HB1.out (lat_below w1 wq))
    clear HP1 HX1 HL1 HX2 HB1 b1 b2 b3 HF HG HH
    generalize lat w1 wq = w2 at *
    have hd := cell_heap (j := 0) hx2 rfl
    have hdq := lat_cell hd
    have y6 := lat_cell (cell_heap (j := 6) hx2 rfl)
    have HK1 := hide (fun z => pknown_any (HP2.out.below (lat_below w2 z)) A1 c1 l1 (HX3.out.below (lat_below w2 z)).s1 (len_max HX3.out.n1))
    have y7 := lat_cell (cell_heap (j := 7) hx2 rfl)
    have HK2 := hide (fun z => pknown_any (HP2.out.below (lat_below w2 z)) A2 c2 l2 (HX3.out.below (lat_below w2 z)).s2 (len_max HX3.out.n2))
    have HTW := hide (fun z => (twice_any A1 c1 l1 (lat w2 z) (HX3.out.below (lat_below w2 z)).s1 (len_max HX3.out.n1)).mono (fun e w' hh => tw_of Htw.out hh))
    rw [Hk1.out] at HK1
    rw [Hk2.out] at HK2
    clear hx2
    go_wp2_with fail
    simp only [List.append_eq, List.cons_append, List.nil_append]
    refine wp_region_lat (by kernel_rfl) (lex_of (by kernel_rfl) lex7) ?_
    repeat (first | go_big_quiet_step ((first | (go_at_call 26; with_reducible exact calls_lat (HK1.out _)) | (go_at_call 26; with_reducible exact calls_lat (HK2.out _)) | (go_at_call 27; with_reducible exact calls_lat (HTW.out _)))) | quiet_step ((first | (go_at_call 26; with_reducible exact calls_lat (HK1.out _)) | (go_at_call 26; with_reducible exact calls_lat (HK2.out _)) | (go_at_call 27; with_reducible exact calls_lat (HTW.out _)))))
    refine wpQuiet_nil ?_
    intro _ hlat
    obtain ⟨wp, rfl⟩ := hlat
    have HP3 := hide (HP2.out.below (lat_below w2 wp))
    have hx3 := heapB (lat_below w2 wp) HX12.out
    have HX13 := hide hx3
    have HL3 := hide (HL2.out.below (lat_below w2 wp))
    have HX4 := hide (HX3.out.below (lat_below w2 wp))
    have HB3 := hide (below_wide HB2.out (lat_below w2 wp))
    clear HP2 HX12 HL2 HX3 HB2 hd hdq y6 HK1 y7 HK2 HTW
    generalize lat w2 wp = w3 at *
    have z0 := cell_heap (j := 0) hx3 rfl
    have z1 := cell_heap (j := 1) hx3 rfl
    have z2 := cell_heap (j := 2) hx3 rfl
    have z3 := cell_heap (j := 3) hx3 rfl
    have z4 := cell_heap (j := 4) hx3 rfl
    have z5 := cell_heap (j := 5) hx3 rfl
    have z6 := cell_heap (j := 6) hx3 rfl
    have z7 := cell_heap (j := 7) hx3 rfl
    have z8 := cell_heap (j := 8) hx3 rfl
    clear hx3
    have HCALL := hide (call9_bad (xb := xb) HP3.out HPL.out HL3.out hq HX4.out HBAD.out)
    go_wp2_with fail
    refine HCALL.out.mono ?_
    rintro e w4 ⟨rfl, hb⟩
    have HP4 := hide (HP3.out.below hb)
    have HL4 := hide (HL3.out.below hb)
    have HB4 := hide ((below_wide HB3.out hb).mono HBW.out)
    clear hb HCALL z0 z1 z2 z3 z4 z5 z6 z7 z8
    go_wp2_with fail
    with_reducible refine (give_no HP4.out HPL.out HL4.out _).mono ?_
    intro e w5 ho
    have HO := hide (ho.after HB4.out)
    obtain ⟨he, _⟩ := ho
    subst he
    go_wp2_with fail
    go_ret
    exact HO.out)
end
end Go.Proofs.YtgfjdkkfgclhjaaGreat.Bd
/- makes, for whatever act that answers a node. -/
namespace Go.Proofs.YtgfjdkkfgclhjaaGreat.Bd
open Go.RowKit Go.Proofs.YtgfjdkkfgclhjaaGreat Go.Proofs.YtgfjdkkfgclhjaaGreat.Lx Go.Maps

section
variable {D : Nat → Array Value → TypeId → Prop} {B : Nat} {w w' : World} {pp : Nat} {k : Blk} {s : St} {n ms q : Nat} {ns : List Nat} {Vn : Value} {ts : List Tb} {vs : List Value} {Vt : Value} {Hs : List Tb} {Vh : Value} {Fs : List (Env → Bool)} {xf xg xh xi : Int} {xb : Bool} {A1 A2 A3 : Option Addr} {c1 c2 c3 : Nat} {l1 l2 : List Int} {l3 : List Bool}
theorem in_var {x : Int} (h0 : 0 ≤ x) (h1 : x < (n : Int)) : ∃ v : Nat, x = (v : Int) ∧ v < n := ⟨x.toNat, by omega, by omega⟩
theorem makes0_any (h : PlM D B w pp k s n ms ns Vn ts vs Vt Hs Vh) (P : Pl s n ms q Fs ns ts Hs) (L : Live w k s) (hq : q ≤ 60) (X : ActM B w xf xg xh xi A1 c1 l1 A2 c2 l2 A3 c3 l3) :
    Calls Tryz.prog 9 #[.pointer (some ⟨pp, 0, none⟩), .agg (actC 0 xf xg xh xi xb A1 l1.length c1 A2 l2.length c2 A3 l3.length c3)] w (MkOut D B pp n ms q w) := by
  by_cases hbad : xi < 0 ∨ (n : Int) ≤ xi
  · exact makes0_bad h P L hq X hbad
  obtain ⟨v, hx, hv⟩ := in_var (n := n) (x := xi) (by omega) (by omega)
  by_cases gf : xf < 0
  · exact makes0_good_n h P L hq X _ rfl v hx hv gf
  · exact makes0_good_p h P L hq X _ rfl v hx hv (by omega)
theorem makes1_any (h : PlM D B w pp k s n ms ns Vn ts vs Vt Hs Vh) (P : Pl s n ms q Fs ns ts Hs) (L : Live w k s) (hq : q ≤ 60) (X : ActM B w xf xg xh xi A1 c1 l1 A2 c2 l2 A3 c3 l3) :
    Calls Tryz.prog 9 #[.pointer (some ⟨pp, 0, none⟩), .agg (actC 1 xf xg xh xi xb A1 l1.length c1 A2 l2.length c2 A3 l3.length c3)] w (MkOut D B pp n ms q w) := by
  by_cases hbad : xf < 0
  · exact makes1_bad h P L hq X hbad
  obtain ⟨jf, af, F, of, uf, ef, tf, nf⟩ := P.arg (x := xf) (by omega)
  exact makes1_good h P L hq X _ rfl af jf F ef of uf tf nf
theorem makes2_any (h : PlM D B w pp k s n ms ns Vn ts vs Vt Hs Vh) (P : Pl s n ms q Fs ns ts Hs) (L : Live w k s) (hq : q ≤ 60) (X : ActM B w xf xg xh xi A1 c1 l1 A2 c2 l2 A3 c3 l3) :
    Calls Tryz.prog 9 #[.pointer (some ⟨pp, 0, none⟩), .agg (actC 2 xf xg xh xi xb A1 l1.length c1 A2 l2.length c2 A3 l3.length c3)] w (MkOut D B pp n ms q w) := by
  by_cases hbad : xf < 0 ∨ xg < 0
  · exact makes2_bad h P L hq X hbad
  obtain ⟨jf, af, F, of, uf, ef, tf, nf⟩ := P.arg (x := xf) (by omega)
  obtain ⟨jg, ag, G, og, ug, eg, tg, ng⟩ := P.arg (x := xg) (by omega)
  exact makes2_good h P L hq X _ rfl af jf F ef of uf tf nf ag jg G eg og ug tg ng
theorem makes3_any (h : PlM D B w pp k s n ms ns Vn ts vs Vt Hs Vh) (P : Pl s n ms q Fs ns ts Hs) (L : Live w k s) (hq : q ≤ 60) (X : ActM B w xf xg xh xi A1 c1 l1 A2 c2 l2 A3 c3 l3) :
    Calls Tryz.prog 9 #[.pointer (some ⟨pp, 0, none⟩), .agg (actC 3 xf xg xh xi xb A1 l1.length c1 A2 l2.length c2 A3 l3.length c3)] w (MkOut D B pp n ms q w) := by
  by_cases hbad : xf < 0 ∨ xg < 0
  · exact makes3_bad h P L hq X hbad
  obtain ⟨jf, af, F, of, uf, ef, tf, nf⟩ := P.arg (x := xf) (by omega)
  obtain ⟨jg, ag, G, og, ug, eg, tg, ng⟩ := P.arg (x := xg) (by omega)
  exact makes3_good h P L hq X _ rfl af jf F ef of uf tf nf ag jg G eg og ug tg ng
theorem makes4_any (h : PlM D B w pp k s n ms ns Vn ts vs Vt Hs Vh) (P : Pl s n ms q Fs ns ts Hs) (L : Live w k s) (hq : q ≤ 60) (X : ActM B w xf xg xh xi A1 c1 l1 A2 c2 l2 A3 c3 l3) :
    Calls Tryz.prog 9 #[.pointer (some ⟨pp, 0, none⟩), .agg (actC 4 xf xg xh xi xb A1 l1.length c1 A2 l2.length c2 A3 l3.length c3)] w (MkOut D B pp n ms q w) := by
  by_cases hbad : xf < 0 ∨ xg < 0
  · exact makes4_bad h P L hq X hbad
  obtain ⟨jf, af, F, of, uf, ef, tf, nf⟩ := P.arg (x := xf) (by omega)
  obtain ⟨jg, ag, G, og, ug, eg, tg, ng⟩ := P.arg (x := xg) (by omega)
  exact makes4_good h P L hq X _ rfl af jf F ef of uf tf nf ag jg G eg og ug tg ng
theorem makes5_any (h : PlM D B w pp k s n ms ns Vn ts vs Vt Hs Vh) (P : Pl s n ms q Fs ns ts Hs) (L : Live w k s) (hq : q ≤ 60) (X : ActM B w xf xg xh xi A1 c1 l1 A2 c2 l2 A3 c3 l3) :
    Calls Tryz.prog 9 #[.pointer (some ⟨pp, 0, none⟩), .agg (actC 5 xf xg xh xi xb A1 l1.length c1 A2 l2.length c2 A3 l3.length c3)] w (MkOut D B pp n ms q w) := by
  by_cases hbad : xf < 0 ∨ xg < 0 ∨ xh < 0
  · exact makes5_bad h P L hq X hbad
  obtain ⟨jf, af, F, of, uf, ef, tf, nf⟩ := P.arg (x := xf) (by omega)
  obtain ⟨jg, ag, G, og, ug, eg, tg, ng⟩ := P.arg (x := xg) (by omega)
  obtain ⟨jh, ah, H, oh, uh, eh, th, nh⟩ := P.arg (x := xh) (by omega)
  exact makes5_good h P L hq X _ rfl af jf F ef of uf tf nf ag jg G eg og ug tg ng ah jh H eh oh uh th nh
theorem makes6_any (h : PlM D B w pp k s n ms ns Vn ts vs Vt Hs Vh) (P : Pl s n ms q Fs ns ts Hs) (L : Live w k s) (hq : q ≤ 60) (X : ActM B w xf xg xh xi A1 c1 l1 A2 c2 l2 A3 c3 l3) :
    Calls Tryz.prog 9 #[.pointer (some ⟨pp, 0, none⟩), .agg (actC 6 xf xg xh xi xb A1 l1.length c1 A2 l2.length c2 A3 l3.length c3)] w (MkOut D B pp n ms q w) := by
  by_cases hbad : xf < 0 ∨ xi < 0 ∨ (n : Int) ≤ xi
  · exact makes6_bad h P L hq X hbad
  obtain ⟨v, hx, hv⟩ := in_var (n := n) (x := xi) (by omega) (by omega)
  obtain ⟨jf, af, F, of, uf, ef, tf, nf⟩ := P.arg (x := xf) (by omega)
  exact makes6_good h P L hq X _ rfl v hx hv af jf F ef of uf tf nf
theorem makes7_any (h : PlM D B w pp k s n ms ns Vn ts vs Vt Hs Vh) (P : Pl s n ms q Fs ns ts Hs) (L : Live w k s) (hq : q ≤ 60) (X : ActM B w xf xg xh xi A1 c1 l1 A2 c2 l2 A3 c3 l3) :
    Calls Tryz.prog 9 #[.pointer (some ⟨pp, 0, none⟩), .agg (actC 7 xf xg xh xi xb A1 l1.length c1 A2 l2.length c2 A3 l3.length c3)] w (MkOut D B pp n ms q w) := by
  by_cases hbad : xf < 0 ∨ knownB n l1 = false
  · exact makes7_bad h P L hq X hbad
  simp only [not_or, Bool.not_eq_false] at hbad
  obtain ⟨_, hk1⟩ := hbad
  obtain ⟨m1, hl1, hm1⟩ := known_nat hk1
  obtain ⟨jf, af, F, of, uf, ef, tf, nf⟩ := P.arg (x := xf) (by omega)
  exact makes7_good h P L hq X _ rfl m1 hl1 hm1 af jf F ef of uf tf nf
theorem makes8_any (h : PlM D B w pp k s n ms ns Vn ts vs Vt Hs Vh) (P : Pl s n ms q Fs ns ts Hs) (L : Live w k s) (hq : q ≤ 60) (X : ActM B w xf xg xh xi A1 c1 l1 A2 c2 l2 A3 c3 l3) :
    Calls Tryz.prog 9 #[.pointer (some ⟨pp, 0, none⟩), .agg (actC 8 xf xg xh xi xb A1 l1.length c1 A2 l2.length c2 A3 l3.length c3)] w (MkOut D B pp n ms q w) := by
  by_cases hbad : xf < 0 ∨ knownB n l1 = false
  · exact makes8_bad h P L hq X hbad
  simp only [not_or, Bool.not_eq_false] at hbad
  obtain ⟨_, hk1⟩ := hbad
  obtain ⟨m1, hl1, hm1⟩ := known_nat hk1
  obtain ⟨jf, af, F, of, uf, ef, tf, nf⟩ := P.arg (x := xf) (by omega)
  exact makes8_good h P L hq X _ rfl m1 hl1 hm1 af jf F ef of uf tf nf
theorem makes9_any (h : PlM D B w pp k s n ms ns Vn ts vs Vt Hs Vh) (P : Pl s n ms q Fs ns ts Hs) (L : Live w k s) (hq : q ≤ 60) (X : ActM B w xf xg xh xi A1 c1 l1 A2 c2 l2 A3 c3 l3) :
    Calls Tryz.prog 9 #[.pointer (some ⟨pp, 0, none⟩), .agg (actC 9 xf xg xh xi xb A1 l1.length c1 A2 l2.length c2 A3 l3.length c3)] w (MkOut D B pp n ms q w) := by
  by_cases hbad : xf < 0 ∨ l1.length ≠ l2.length ∨ knownB n l1 = false ∨ knownB n l2 = false ∨ ¬ l1.Nodup
  · exact makes9_bad h P L hq X hbad
  simp only [not_or, Bool.not_eq_false, ne_eq, Decidable.not_not] at hbad
  obtain ⟨_, hln, hk1, hk2, htw⟩ := hbad
  obtain ⟨m1, hl1, hm1⟩ := known_nat hk1
  obtain ⟨m2, hl2, hm2⟩ := known_nat hk2
  obtain ⟨jf, af, F, of, uf, ef, tf, nf⟩ := P.arg (x := xf) (by omega)
  exact makes9_good h P L hq X _ rfl m1 hl1 hm1 m2 hl2 hm2 (by rw [hl1, hl2, encL_len, encL_len] at hln; exact hln) (by rw [hl1] at htw; exact nodup_enc.1 htw) af jf F ef of uf tf nf
theorem makes_any (d : Nat) (hd : d < 10) (h : PlM D B w pp k s n ms ns Vn ts vs Vt Hs Vh) (P : Pl s n ms q Fs ns ts Hs) (L : Live w k s) (hq : q ≤ 60) (X : ActM B w xf xg xh xi A1 c1 l1 A2 c2 l2 A3 c3 l3) :
    Calls Tryz.prog 9 #[.pointer (some ⟨pp, 0, none⟩), .agg (actC d xf xg xh xi xb A1 l1.length c1 A2 l2.length c2 A3 l3.length c3)] w (MkOut D B pp n ms q w) := by
  rcases (by omega : d = 0 ∨ d = 1 ∨ d = 2 ∨ d = 3 ∨ d = 4 ∨ d = 5 ∨ d = 6 ∨ d = 7 ∨ d = 8 ∨ d = 9) with rfl | rfl | rfl | rfl | rfl | rfl | rfl | rfl | rfl | rfl
  · exact makes0_any h P L hq X
  · exact makes1_any h P L hq X
  · exact makes2_any h P L hq X
  · exact makes3_any h P L hq X
  · exact makes4_any h P L hq X
  · exact makes5_any h P L hq X
  · exact makes6_any h P L hq X
  · exact makes7_any h P L hq X
  · exact makes8_any h P L hq X
  · exact makes9_any h P L hq X
end
end Go.Proofs.YtgfjdkkfgclhjaaGreat.Bd
/- An arena whose own blocks are as they were. -/
namespace Go.Proofs.YtgfjdkkfgclhjaaGreat.Bd
open Go.RowKit Go.Proofs.YtgfjdkkfgclhjaaGreat Go.Proofs.YtgfjdkkfgclhjaaGreat.Lx Go.Maps

theorem MSet.block {P : Program} {w w' : World} {kt e : TypeId} {b n N : Nat} {α : Type} {en : α → Value} {f : α → Bool} (h : MSet P w kt e b n N en f) (hb : w'.heap[b]? = w.heap[b]?) : MSet P w' kt e b n N en f := by
  obtain ⟨D, h1, h2⟩ := h
  obtain ⟨es, cl, hh, F, hs', hD⟩ := h1
  exact ⟨D, ⟨es, cl, hb.trans hh, F, hs', hD⟩, h2⟩
theorem own_block {w w' : World} {base size n g c : Nat} {e : TypeId} {xs : List Value} {m : Nat} (h : w.ownsRow base e size (.slice (some ⟨g, 0, none⟩) m c) n xs) (hb : w'.heap[g]? = w.heap[g]?) : w'.ownsRow base e size (.slice (some ⟨g, 0, none⟩) m c) n xs := by
  refine ⟨h.1, ?_⟩
  rcases h.2 with ⟨h1, _⟩ | ⟨g', cap, cur, h1, h2, h3, h4⟩
  · cases h1
  · refine .inr ⟨g', cap, cur, h1, h2, ?_, h4⟩
    injection h1 with h1
    injection h1 with h1
    injection h1 with h1
    subst h1
    exact hb.trans h3
theorem Hp.same {w w' : World} {k : Blk} {s : St} {fb ft : Nd → Option Int} (h : Hp w k s fb ft) (hs : ∀ i, fp k i → w'.heap[i]? = w.heap[i]?) : Hp w' k s fb ft := by
  have a1 := hs k.p (by simp [fp])
  have a2 := hs k.g (by simp [fp])
  have a3 := hs k.bm (by simp [fp])
  have a4 := hs k.it (by simp [fp])
  have a5 := hs k.gi (by simp [fp])
  have a6 := hs k.he (by simp [fp])
  obtain ⟨N, hg⟩ := h.gi
  obtain ⟨D1, ⟨es1, cl1, hh1, F1, hs1, hD1⟩, h21⟩ := h.bm
  obtain ⟨D2, ⟨es2, cl2, hh2, F2, hs2, hD2⟩, h22⟩ := h.it
  exact ⟨a1.trans h.p, own_block h.v a2, ⟨D1, ⟨es1, cl1, a3.trans hh1, F1, hs1, hD1⟩, h21⟩, ⟨D2, ⟨es2, cl2, a4.trans hh2, F2, hs2, hD2⟩, h22⟩, ⟨N, hg.block a5⟩, h.he.block a6, h.d1, h.d2, h.d3, h.d4, h.d5, h.d6⟩
theorem Ar.lt {w : World} {k : Blk} {s : St} (h : Ar w k s) : ∀ i, fp k i → i < w.heap.size := by
  obtain ⟨_, _, H, _⟩ := h
  exact H.lt
/-- an arena that lies in new memory -/
structure Mine (w0 w : World) (k : Blk) (s : St) : Prop where
  L : Live w k s
  b : Below w0.heap.size w0 w
  f : ∀ i, fp k i → w0.heap.size ≤ i
theorem Mine.turn {w0 w w' : World} {k k' : Blk} {s s' : St} (h : Mine w0 w k s) (L : Live w' k' s') (T : Turn k k' w w') : Mine w0 w' k' s' := by
  have hs := h.b.size
  refine ⟨L, h.b.trans (T.low h.f hs), fun i hi => ?_⟩
  unfold fp at hi
  rw [T.p, T.bm, T.it, T.gi, T.he] at hi
  rcases hi with e | e | e
  · exact h.f i (.inl e)
  · rcases T.row with e' | e'
    · exact h.f i (.inr (.inl (by omega)))
    · omega
  · exact h.f i (.inr (.inr e))
theorem Mine.below {w0 w w' : World} {k : Blk} {s : St} (h : Mine w0 w k s) (hb : Below w.heap.size w w') : Mine w0 w' k s := ⟨h.L.below hb, h.b.trans (hb.mono h.b.size), h.f⟩
theorem mine_new {w w' : World} {k : Blk} {vs ms : Nat} (h : Own w w' k (St.new vs ms)) (h1 : vs ≤ 256) (h2 : ms ≤ 4194304) : Mine w w' k (St.new vs ms) :=
  ⟨⟨h.1, ⟨h2, Nat.zero_le _, by show 2 ≤ 900000000; omega, h1⟩, rfl, rfl⟩, h.2.1, h.2.2⟩
end Go.Proofs.YtgfjdkkfgclhjaaGreat.Bd
/- tells, walked (printed by gen_fa.py). -/
namespace Go.Proofs.YtgfjdkkfgclhjaaGreat.Bd
open Go.RowKit Go.Proofs.YtgfjdkkfgclhjaaGreat Go.Proofs.YtgfjdkkfgclhjaaGreat.Lx Go.Maps

section
variable {D : Nat → Array Value → TypeId → Prop} {B : Nat} {w w' : World} {pp : Nat} {k : Blk} {s : St} {n ms q : Nat} {ns : List Nat} {Vn : Value} {ts : List Tb} {vs : List Value} {Vt : Value} {Hs : List Tb} {Vh : Value} {Fs : List (Env → Bool)} {xf xg xh xi : Int} {xb : Bool} {A1 A2 A3 : Option Addr} {c1 c2 c3 : Nat} {l1 l2 : List Int} {l3 : List Bool}
set_option maxRecDepth 100000 in
theorem lex10 : Region.lexB .any (opsAt Tryz.prog 8 10).toArray = true := by kernel_rfl
set_option maxRecDepth 100000 in
theorem lex21 : Region.lexB .any (opsAt Tryz.prog 8 21).toArray = true := by kernel_rfl
theorem grown_none {V : Value} (hV : V = .slice none 0 0) (h : w.grownBy w' V.ownBlock) : Below w.heap.size w w' := by
  subst hV
  exact (Below.refl _ w).grown h (Nat.le_refl _) (fun b e => by cases e)
set_option maxHeartbeats 16000000 in
set_option maxRecDepth 100000 in
theorem tells_bad (h : PlM D B w pp k s n ms ns Vn ts vs Vt Hs Vh) (P : Pl s n ms q Fs ns ts Hs) (L : Live w k s) (hq : q ≤ 60) (X : ActM B w xf xg xh xi A1 c1 l1 A2 c2 l2 A3 c3 l3) (gf : xf < 0) :
    Calls Tryz.prog 8 #[.pointer (some ⟨pp, 0, none⟩), .agg (actC 10 xf xg xh xi xb A1 l1.length c1 A2 l2.length c2 A3 l3.length c3)] w fun e w' => e = .returned (.bool true) ∧ Below w.heap.size w w' := by
  have Ho := hide (ofP_neg (m := ns.length) gf)
  have Hn := hide (nodeP_neg (ns := ns) gf)
  have HG := hide (show gvn s [(-1 : Int)] = 1 from gvn_no (by simp) P.neg)
  clear gf
  have hbx := bel_one w (.cells #[.int .u8 10, .int .i64 xf, .int .i64 xg, .int .i64 xh, .int .i64 xi, .bool xb, .slice A1 l1.length c1, .slice A2 l2.length c2, .slice A3 l3.length c3] 39)
  have HP := hide (h.below hbx)
  have HX := hide (heap_new w (.cells #[.int .u8 10, .int .i64 xf, .int .i64 xg, .int .i64 xh, .int .i64 xi, .bool xb, .slice A1 l1.length c1, .slice A2 l2.length c2, .slice A3 l3.length c3] 39))
  have HL := hide (L.below hbx)
  have HA := hide (X.below hbx)
  have HB := hide hbx
  have HPL := hide P
  have HI := hide X.f
  have n6 := P.n6
  clear h X L hbx P
  go_enter Tryz.func8, Tryz.ntmps8
  go_upto_region 1 with fail
  generalize w.alloc (.cells #[.int .u8 10, .int .i64 xf, .int .i64 xg, .int .i64 xh, .int .i64 xi, .bool xb, .slice A1 l1.length c1, .slice A2 l2.length c2, .slice A3 l3.length c3] 39) = w1 at *
  have HOF := hide (fun (z : World) (hz : PlM D B z pp k s n ms ns Vn ts vs Vt Hs Vh) => of_any hz HPL.out.two (by have := HPL.out.sm; omega) xf HI.out)
  have HND := hide (fun (z : World) (hz : PlM D B z pp k s n ms ns Vn ts vs Vt Hs Vh) => node_any hz HPL.out.two (by have := HPL.out.sm; omega) xf HI.out)
  rw [Ho.out] at HOF
  rw [Hn.out] at HND
  have x1 := cell_heap (j := 1) HX.out rfl
  go_wp2_with fail
  refine (HOF.out w1 HP.out).mono ?_
  rintro e w2 ⟨rfl, hw⟩
  subst w2
  clear x1 HOF
  have p0 := lat_cell (HP.out.cell (j := 0) rfl)
  have x1 := lat_cell (cell_heap (j := 1) HX.out rfl)
  have x8 := lat_cell (cell_heap (j := 8) HX.out rfl)
  have HC0 := hide (fun z => HND.out (lat w1 z) (HP.out.below (lat_below w1 z)))
  have HC1 := hide (fun z => At_bad k s (-1) (.slice A3 l3.length c3) (lat w1 z) (HL.out.below (lat_below w1 z)).ar (show I64 (-1) by decide) HG.out)
  go_wp2_with fail
  refine wp_region_lat (by kernel_rfl) (by kernel_rfl) ?_
  repeat (first | go_big_quiet_step ((first | (go_at_call 14; with_reducible exact calls_lat (HC0.out _)) | (go_at_call 13; with_reducible exact calls_lat (HC1.out _)))) | quiet_step ((first | (go_at_call 14; with_reducible exact calls_lat (HC0.out _)) | (go_at_call 13; with_reducible exact calls_lat (HC1.out _)))))
  refine wpQuiet_nil ?_
  intro _ hlat
  obtain ⟨v2, rfl⟩ := hlat
  clear p0 x1 x8 HC0 HC1
  have HPq := hide (HP.out.below (lat_below w1 v2))
  have HXq := hide (heapB (lat_below w1 v2) HX.out)
  have HLq := hide (HL.out.below (lat_below w1 v2))
  have HAq := hide (HA.out.below (lat_below w1 v2))
  have HBq := hide (below_wide HB.out (lat_below w1 v2))
  clear HP HX HL HA HB
  have HP := HPq
  have HX := HXq
  have HL := HLq
  have HA := HAq
  have HB := HBq
  clear HPq HXq HLq HAq HBq
  generalize lat w1 v2 = w2 at *
  have p0 := lat_cell (HP.out.cell (j := 0) rfl)
  have x1 := lat_cell (cell_heap (j := 1) HX.out rfl)
  have HC0 := hide (fun z => HND.out (lat w2 z) (HP.out.below (lat_below w2 z)))
  have HC1 := hide (fun z => Size_bad k s (-1) (lat w2 z) (HL.out.below (lat_below w2 z)).ar (show I64 (-1) by decide) HG.out)
  go_wp2_with fail
  refine wp_region_lat (by kernel_rfl) (by kernel_rfl) ?_
  repeat (first | go_big_quiet_step ((first | (go_at_call 14; with_reducible exact calls_lat (HC0.out _)) | (go_at_call 15; with_reducible exact calls_lat (HC1.out _)))) | quiet_step ((first | (go_at_call 14; with_reducible exact calls_lat (HC0.out _)) | (go_at_call 15; with_reducible exact calls_lat (HC1.out _)))))
  refine wpQuiet_nil ?_
  intro _ hlat
  obtain ⟨v3, rfl⟩ := hlat
  clear p0 x1 HC0 HC1
  have HPq := hide (HP.out.below (lat_below w2 v3))
  have HXq := hide (heapB (lat_below w2 v3) HX.out)
  have HLq := hide (HL.out.below (lat_below w2 v3))
  have HAq := hide (HA.out.below (lat_below w2 v3))
  have HBq := hide (below_wide HB.out (lat_below w2 v3))
  clear HP HX HL HA HB
  have HP := HPq
  have HX := HXq
  have HL := HLq
  have HA := HAq
  have HB := HBq
  clear HPq HXq HLq HAq HBq
  generalize lat w2 v3 = w3 at *
  have p0 := lat_cell (HP.out.cell (j := 0) rfl)
  have x1 := lat_cell (cell_heap (j := 1) HX.out rfl)
  have HC0 := hide (fun z => HND.out (lat w3 z) (HP.out.below (lat_below w3 z)))
  have HC1 := hide (fun z => Support_bad k s (-1) (lat w3 z) (HL.out.below (lat_below w3 z)).ar (show I64 (-1) by decide) HG.out)
  go_wp2_with fail
  refine wp_region_lat (by kernel_rfl) (by kernel_rfl) ?_
  repeat (first | go_big_quiet_step ((first | (go_at_call 14; with_reducible exact calls_lat (HC0.out _)) | (go_at_call 16; with_reducible exact calls_lat (HC1.out _)))) | quiet_step ((first | (go_at_call 14; with_reducible exact calls_lat (HC0.out _)) | (go_at_call 16; with_reducible exact calls_lat (HC1.out _)))))
  refine wpQuiet_nil ?_
  intro _ hlat
  obtain ⟨v4, rfl⟩ := hlat
  clear p0 x1 HC0 HC1
  have HPq := hide (HP.out.below (lat_below w3 v4))
  have HXq := hide (heapB (lat_below w3 v4) HX.out)
  have HLq := hide (HL.out.below (lat_below w3 v4))
  have HAq := hide (HA.out.below (lat_below w3 v4))
  have HBq := hide (below_wide HB.out (lat_below w3 v4))
  clear HP HX HL HA HB
  have HP := HPq
  have HX := HXq
  have HL := HLq
  have HA := HAq
  have HB := HBq
  clear HPq HXq HLq HAq HBq
  generalize lat w3 v4 = w4 at *
  go_upto_region 5 with fail
  go_cut [12, 13] from 9999 (fun u v wr => ∃ c, u = .pointer (some ⟨c, 0, none⟩) ∧ v = .int .i64 1 ∧ wr.heap[c]? = some (.cells #[.int .u64 0, .int .u64 0] 61 (0, 0)) ∧ w4.heap.size ≤ c ∧ Below w4.heap.size w4 wr)
  case first =>
    have HSX := hide (show Below w4.heap.size w4 w4.drew from (Below.refl _ _).drew)
    have p0 := fun z => cellB (pin_in (S := Below w4.heap.size w4) HSX.out z) (HP.out.cell (j := 0) rfl)
    have x1 := fun z => cellB (pin_in (S := Below w4.heap.size w4) HSX.out z) (cell_heap (j := 1) HX.out rfl)
    have x6 := fun z => cellB (pin_in (S := Below w4.heap.size w4) HSX.out z) (cell_heap (j := 6) HX.out rfl)
    go_wp2_with fail
    refine wp_region_tree ((Below w4.heap.size w4)) (fun k => ([] : List Nat).contains k) (.take [0, 1, 2, 3, 4, 5, 6, 8, 9] (.fork 7 (.fork 10 (.take [11, 12, 13] (.step 14 (.step 15 (.take [16] .done)))) 14 (.step 10 (.take [11, 12, 13] (.step 15 (.take [16] .done))))) 14 (.step 7 (.step 10 (.take [11, 12, 13] (.step 15 (.take [16] .done))))))) (by kernel_rfl) (by kernel_rfl) (by kernel_rfl) (by kernel_rfl) (.take (.cons (.zero) (.cons (.succ (.zero)) (.cons (.succ (.succ (.zero))) (.cons (.succ (.succ (.succ (.zero)))) (.cons (.succ (.succ (.succ (.succ (.zero))))) (.cons (.succ (.succ (.succ (.succ (.succ (.zero)))))) (.cons (.succ (.succ (.succ (.succ (.succ (.succ (.zero))))))) (.cons (.succ (.succ (.succ (.succ (.succ (.succ (.succ (.succ (.zero))))))))) (.cons (.succ (.succ (.succ (.succ (.succ (.succ (.succ (.succ (.succ (.zero)))))))))) .nil))))))))) (.fork (.succ (.succ (.succ (.succ (.succ (.succ (.succ (.zero)))))))) rfl (.fork (.succ (.succ (.succ (.succ (.succ (.succ (.succ (.succ (.succ (.succ (.zero))))))))))) rfl (.take (.cons (.succ (.succ (.succ (.succ (.succ (.succ (.succ (.succ (.succ (.succ (.succ (.zero)))))))))))) (.cons (.succ (.succ (.succ (.succ (.succ (.succ (.succ (.succ (.succ (.succ (.succ (.succ (.zero))))))))))))) (.cons (.succ (.succ (.succ (.succ (.succ (.succ (.succ (.succ (.succ (.succ (.succ (.succ (.succ (.zero)))))))))))))) .nil))) (.step (.succ (.succ (.succ (.succ (.succ (.succ (.succ (.succ (.succ (.succ (.succ (.succ (.succ (.succ (.zero))))))))))))))) rfl (.step (.succ (.succ (.succ (.succ (.succ (.succ (.succ (.succ (.succ (.succ (.succ (.succ (.succ (.succ (.succ (.zero)))))))))))))))) rfl (.take (.cons (.succ (.succ (.succ (.succ (.succ (.succ (.succ (.succ (.succ (.succ (.succ (.succ (.succ (.succ (.succ (.succ (.zero))))))))))))))))) .nil) .done)))) (.succ (.succ (.succ (.succ (.succ (.succ (.succ (.succ (.succ (.succ (.succ (.succ (.succ (.succ (.zero))))))))))))))) rfl (.step (.succ (.succ (.succ (.succ (.succ (.succ (.succ (.succ (.succ (.succ (.zero))))))))))) rfl (.take (.cons (.succ (.succ (.succ (.succ (.succ (.succ (.succ (.succ (.succ (.succ (.succ (.zero)))))))))))) (.cons (.succ (.succ (.succ (.succ (.succ (.succ (.succ (.succ (.succ (.succ (.succ (.succ (.zero))))))))))))) (.cons (.succ (.succ (.succ (.succ (.succ (.succ (.succ (.succ (.succ (.succ (.succ (.succ (.succ (.zero)))))))))))))) .nil))) (.step (.succ (.succ (.succ (.succ (.succ (.succ (.succ (.succ (.succ (.succ (.succ (.succ (.succ (.succ (.succ (.zero)))))))))))))))) rfl (.take (.cons (.succ (.succ (.succ (.succ (.succ (.succ (.succ (.succ (.succ (.succ (.succ (.succ (.succ (.succ (.succ (.succ (.zero))))))))))))))))) .nil) .done))))) (.succ (.succ (.succ (.succ (.succ (.succ (.succ (.succ (.succ (.succ (.succ (.succ (.succ (.succ (.zero))))))))))))))) rfl (.step (.succ (.succ (.succ (.succ (.succ (.succ (.succ (.zero)))))))) rfl (.step (.succ (.succ (.succ (.succ (.succ (.succ (.succ (.succ (.succ (.succ (.zero))))))))))) rfl (.take (.cons (.succ (.succ (.succ (.succ (.succ (.succ (.succ (.succ (.succ (.succ (.succ (.zero)))))))))))) (.cons (.succ (.succ (.succ (.succ (.succ (.succ (.succ (.succ (.succ (.succ (.succ (.succ (.zero))))))))))))) (.cons (.succ (.succ (.succ (.succ (.succ (.succ (.succ (.succ (.succ (.succ (.succ (.succ (.succ (.zero)))))))))))))) .nil))) (.step (.succ (.succ (.succ (.succ (.succ (.succ (.succ (.succ (.succ (.succ (.succ (.succ (.succ (.succ (.succ (.zero)))))))))))))))) rfl (.take (.cons (.succ (.succ (.succ (.succ (.succ (.succ (.succ (.succ (.succ (.succ (.succ (.succ (.succ (.succ (.succ (.succ (.zero))))))))))))))))) .nil) .done))))))) ?hQ ?hS ?_
    case hQ => exact fun _ _ _ _ _ h => h
    case hS => exact HSX.out
    refine wpT_take ?_
    repeat (first | go_big_quiet_step ((fail)) | quiet_step ((fail)))
    refine wpQuiet_nil ?_
    clear p0 x1 x6
    generalize w4.drew = y0 at *
    refine wpT_fork ?_ ?_
    · refine wpT_step rfl ?_
      intro K1 hK1
      go_wp2_with fail
      refine (HND.out y0 (HP.out.below HSX.out)).mono ?_
      rintro e y1 ⟨rfl, hb⟩
      have HSq := hide (HSX.out.trans (hb.mono HSX.out.size))
      clear hb HSX
      have HSX := HSq
      clear HSq
      refine hK1.out _ _ (fun _ => pin_mem HSX.out) ?_
      clear hK1
      refine wpT_fork ?_ ?_
      · refine wpT_step rfl ?_
        intro K1 hK1
        go_wp2_with fail
        refine (Count_bad k s (-1) A1 l1.length c1 y1 (HL.out.below HSX.out).ar (show I64 (-1) by decide) HG.out).mono ?_
        rintro e y2 ⟨rfl, hb⟩
        have HSq := hide (HSX.out.trans (hb.mono HSX.out.size))
        clear hb HSX
        have HSX := HSq
        clear HSq
        refine hK1.out _ _ (fun _ => pin_mem HSX.out) ?_
        clear hK1
        refine wpT_take ?_
        repeat (first | go_big_quiet_step ((fail)) | quiet_step ((fail)))
        refine wpQuiet_nil ?_
        refine wpT_step rfl ?_
        intro K1 hK1
        go_wp2_with fail
        have HSq := hide (HSX.out.alloc HSX.out.size (Obj.cells #[.int .u64 0, .int .u64 0] 61))
        have HC12 := hide (heap_new y2 (Obj.cells #[.int .u64 0, .int .u64 0] 61))
        have HGE := hide HSX.out.size
        clear HSX
        have HSX := HSq
        clear HSq
        refine hK1.out _ _ (fun _ => pin_mem HSX.out) ?_
        clear hK1
        generalize y2.alloc (Obj.cells #[.int .u64 0, .int .u64 0] 61) = y3 at *
        generalize y2.heap.size = c12 at *
        have s0 := cell_heap (j := 0) HC12.out rfl
        have f0 := frozen_heap (j := 0) HC12.out
        have s1 := fun (u : Value) => cell_heap (j := 1) (heap_set (j := 0) (u := u) HC12.out) rfl
        have f1 := fun (u : Value) => frozen_heap (j := 1) (heap_set (j := 0) (u := u) HC12.out)
        refine wpT_step rfl ?_
        intro K1 hK1
        go_wp2_with fail
        have HSq := hide ((HSX.out.setCell (p := ⟨c12, 0, none⟩) HGE.out (.int .u64 0)).setCell (p := ⟨c12, 1, none⟩) HGE.out (.int .u64 0))
        have HCq := hide (show ((y3.setCell ⟨c12, 0, none⟩ (.int .u64 0)).setCell ⟨c12, 1, none⟩ (.int .u64 0)).heap[c12]? = some (.cells #[.int .u64 0, .int .u64 0] 61 (0, 0)) from heap_set (j := 1) (u := .int .u64 0) (heap_set (j := 0) (u := .int .u64 0) HC12.out))
        clear s0 f0 s1 f1
        refine hK1.out _ _ (fun _ => pin_mem HSq.out) ?_
        clear hK1
        refine wpT_take ?_
        repeat (first | go_big_quiet_step ((fail)) | quiet_step ((fail)))
        refine wpQuiet_nil ?_
        refine wpT_done ?_
        go_wp2_with fail
        go_meet
        case rel => exact ⟨c12, rfl, rfl, HCq.out, HGE.out, HSq.out⟩
      · refine wpT_step rfl ?_
        intro K1 hK1
        go_wp2_with fail
        have HSq := hide (HSX.out.alloc HSX.out.size (Obj.cells #[.int .u64 0, .int .u64 0] 61))
        have HC12 := hide (heap_new y1 (Obj.cells #[.int .u64 0, .int .u64 0] 61))
        have HGE := hide HSX.out.size
        clear HSX
        have HSX := HSq
        clear HSq
        refine hK1.out _ _ (fun _ => pin_mem HSX.out) ?_
        clear hK1
        generalize y1.alloc (Obj.cells #[.int .u64 0, .int .u64 0] 61) = y2 at *
        generalize y1.heap.size = c12 at *
        refine wpT_step rfl ?_
        intro K1 hK1
        go_wp2_with fail
        refine (Count_bad k s (-1) A1 l1.length c1 y2 (HL.out.below HSX.out).ar (show I64 (-1) by decide) HG.out).mono ?_
        rintro e y3 ⟨rfl, hb⟩
        have HSq := hide (HSX.out.trans (hb.mono HSX.out.size))
        have HCq := hide (heapB hb HC12.out)
        clear HC12
        have HC12 := HCq
        clear HCq
        clear hb HSX
        have HSX := HSq
        clear HSq
        refine hK1.out _ _ (fun _ => pin_mem HSX.out) ?_
        clear hK1
        refine wpT_take ?_
        repeat (first | go_big_quiet_step ((fail)) | quiet_step ((fail)))
        refine wpQuiet_nil ?_
        have s0 := cell_heap (j := 0) HC12.out rfl
        have f0 := frozen_heap (j := 0) HC12.out
        have s1 := fun (u : Value) => cell_heap (j := 1) (heap_set (j := 0) (u := u) HC12.out) rfl
        have f1 := fun (u : Value) => frozen_heap (j := 1) (heap_set (j := 0) (u := u) HC12.out)
        refine wpT_step rfl ?_
        intro K1 hK1
        go_wp2_with fail
        have HSq := hide ((HSX.out.setCell (p := ⟨c12, 0, none⟩) HGE.out (.int .u64 0)).setCell (p := ⟨c12, 1, none⟩) HGE.out (.int .u64 0))
        have HCq := hide (show ((y3.setCell ⟨c12, 0, none⟩ (.int .u64 0)).setCell ⟨c12, 1, none⟩ (.int .u64 0)).heap[c12]? = some (.cells #[.int .u64 0, .int .u64 0] 61 (0, 0)) from heap_set (j := 1) (u := .int .u64 0) (heap_set (j := 0) (u := .int .u64 0) HC12.out))
        clear s0 f0 s1 f1
        refine hK1.out _ _ (fun _ => pin_mem HSq.out) ?_
        clear hK1
        refine wpT_take ?_
        repeat (first | go_big_quiet_step ((fail)) | quiet_step ((fail)))
        refine wpQuiet_nil ?_
        refine wpT_done ?_
        go_wp2_with fail
        go_meet
        case rel => exact ⟨c12, rfl, rfl, HCq.out, HGE.out, HSq.out⟩
    · refine wpT_step rfl ?_
      intro K1 hK1
      go_wp2_with fail
      have HSq := hide (HSX.out.alloc HSX.out.size (Obj.cells #[.int .u64 0, .int .u64 0] 61))
      have HC12 := hide (heap_new y0 (Obj.cells #[.int .u64 0, .int .u64 0] 61))
      have HGE := hide HSX.out.size
      clear HSX
      have HSX := HSq
      clear HSq
      refine hK1.out _ _ (fun _ => pin_mem HSX.out) ?_
      clear hK1
      generalize y0.alloc (Obj.cells #[.int .u64 0, .int .u64 0] 61) = y1 at *
      generalize y0.heap.size = c12 at *
      refine wpT_step rfl ?_
      intro K1 hK1
      go_wp2_with fail
      refine (HND.out y1 (HP.out.below HSX.out)).mono ?_
      rintro e y2 ⟨rfl, hb⟩
      have HSq := hide (HSX.out.trans (hb.mono HSX.out.size))
      have HCq := hide (heapB hb HC12.out)
      clear HC12
      have HC12 := HCq
      clear HCq
      clear hb HSX
      have HSX := HSq
      clear HSq
      refine hK1.out _ _ (fun _ => pin_mem HSX.out) ?_
      clear hK1
      refine wpT_step rfl ?_
      intro K1 hK1
      go_wp2_with fail
      refine (Count_bad k s (-1) A1 l1.length c1 y2 (HL.out.below HSX.out).ar (show I64 (-1) by decide) HG.out).mono ?_
      rintro e y3 ⟨rfl, hb⟩
      have HSq := hide (HSX.out.trans (hb.mono HSX.out.size))
      have HCq := hide (heapB hb HC12.out)
      clear HC12
      have HC12 := HCq
      clear HCq
      clear hb HSX
      have HSX := HSq
      clear HSq
      refine hK1.out _ _ (fun _ => pin_mem HSX.out) ?_
      clear hK1
      refine wpT_take ?_
      repeat (first | go_big_quiet_step ((fail)) | quiet_step ((fail)))
      refine wpQuiet_nil ?_
      have s0 := cell_heap (j := 0) HC12.out rfl
      have f0 := frozen_heap (j := 0) HC12.out
      have s1 := fun (u : Value) => cell_heap (j := 1) (heap_set (j := 0) (u := u) HC12.out) rfl
      have f1 := fun (u : Value) => frozen_heap (j := 1) (heap_set (j := 0) (u := u) HC12.out)
      refine wpT_step rfl ?_
      intro K1 hK1
      go_wp2_with fail
      have HSq := hide ((HSX.out.setCell (p := ⟨c12, 0, none⟩) HGE.out (.int .u64 0)).setCell (p := ⟨c12, 1, none⟩) HGE.out (.int .u64 0))
      have HCq := hide (show ((y3.setCell ⟨c12, 0, none⟩ (.int .u64 0)).setCell ⟨c12, 1, none⟩ (.int .u64 0)).heap[c12]? = some (.cells #[.int .u64 0, .int .u64 0] 61 (0, 0)) from heap_set (j := 1) (u := .int .u64 0) (heap_set (j := 0) (u := .int .u64 0) HC12.out))
      clear s0 f0 s1 f1
      refine hK1.out _ _ (fun _ => pin_mem HSq.out) ?_
      clear hK1
      refine wpT_take ?_
      repeat (first | go_big_quiet_step ((fail)) | quiet_step ((fail)))
      refine wpQuiet_nil ?_
      refine wpT_done ?_
      go_wp2_with fail
      go_meet
      case rel => exact ⟨c12, rfl, rfl, HCq.out, HGE.out, HSq.out⟩
  case rest =>
    obtain ⟨c12, rfl, rfl, hc12, hge, hbr⟩ := hcut
    have HC12 := hide hc12
    have HPq := hide (HP.out.below hbr)
    have HXq := hide (heapB hbr HX.out)
    have HLq := hide (HL.out.below hbr)
    have HAq := hide (HA.out.below hbr)
    have HBq := hide (below_wide HB.out hbr)
    clear HP HX HL HA HB
    have HP := HPq
    have HX := HXq
    have HL := HLq
    have HA := HAq
    have HB := HBq
    clear HPq HXq HLq HAq HBq
    clear hc12 hbr
    have p0 := lat_cell (HP.out.cell (j := 0) rfl)
    have x1 := lat_cell (cell_heap (j := 1) HX.out rfl)
    have x6 := lat_cell (cell_heap (j := 6) HX.out rfl)
    have HC0 := hide (fun z => HND.out (lat wc z) (HP.out.below (lat_below wc z)))
    have HC1 := hide (fun z => Least_bad k s (-1) (.slice A1 l1.length c1) (lat wc z) (HL.out.below (lat_below wc z)).ar (show I64 (-1) by decide) HG.out)
    go_wp2_with fail
    refine wp_region_lat (by kernel_rfl) (by kernel_rfl) ?_
    repeat (first | go_big_quiet_step ((first | (go_at_call 14; with_reducible exact calls_lat (HC0.out _)) | (go_at_call 18; with_reducible exact calls_lat (HC1.out _)))) | quiet_step ((first | (go_at_call 14; with_reducible exact calls_lat (HC0.out _)) | (go_at_call 18; with_reducible exact calls_lat (HC1.out _)))))
    refine wpQuiet_nil ?_
    intro _ hlat
    obtain ⟨v6, rfl⟩ := hlat
    clear p0 x1 x6 HC0 HC1
    have HPq := hide (HP.out.below (lat_below wc v6))
    have HXq := hide (heapB (lat_below wc v6) HX.out)
    have HLq := hide (HL.out.below (lat_below wc v6))
    have HAq := hide (HA.out.below (lat_below wc v6))
    have HBq := hide (below_wide HB.out (lat_below wc v6))
    have HCq := hide (heapB (lat_below wc v6) HC12.out)
    clear HC12
    have HC12 := HCq
    clear HCq
    clear HP HX HL HA HB
    have HP := HPq
    have HX := HXq
    have HL := HLq
    have HA := HAq
    have HB := HBq
    clear HPq HXq HLq HAq HBq
    generalize lat wc v6 = w6 at *
    have e0 := cell_heap (j := 0) HC12.out rfl
    have e1 := cell_heap (j := 1) HC12.out rfl
    go_wp2_with fail
    go_ret
    exact ⟨rfl, HB.out⟩
end
end Go.Proofs.YtgfjdkkfgclhjaaGreat.Bd
