/- What the claim leans on, part 11 of 13: FB FC FD FE. -/
import Derived.Deep.CutBlock
import Derived.Deep.DeepCutAuto
import Derived.Test.YtgfjdkkfgclhjaaGreatPl01
import Derived.Test.YtgfjdkkfgclhjaaGreatPl02
import Derived.Test.YtgfjdkkfgclhjaaGreatPl03
import Derived.Test.YtgfjdkkfgclhjaaGreatPl04
import Derived.Test.YtgfjdkkfgclhjaaGreatPl05
import Derived.Test.YtgfjdkkfgclhjaaGreatPl06
import Derived.Test.YtgfjdkkfgclhjaaGreatPl07
import Derived.Test.YtgfjdkkfgclhjaaGreatPl08
import Derived.Test.YtgfjdkkfgclhjaaGreatPl09
import Derived.Test.YtgfjdkkfgclhjaaGreatPl10
/- tells, walked (printed by gen_fa.py). -/
namespace Go.Proofs.YtgfjdkkfgclhjaaGreat.Bd
open Go.RowKit Go.Proofs.YtgfjdkkfgclhjaaGreat Go.Proofs.YtgfjdkkfgclhjaaGreat.Lx Go.Maps

section
variable {D : Nat → Array Value → TypeId → Prop} {B : Nat} {w w' : World} {pp : Nat} {k : Blk} {s : St} {n ms q : Nat} {ns : List Nat} {Vn : Value} {ts : List Tb} {vs : List Value} {Vt : Value} {Hs : List Tb} {Vh : Value} {Fs : List (Env → Bool)} {xf xg xh xi : Int} {xb : Bool} {A1 A2 A3 : Option Addr} {c1 c2 c3 : Nat} {l1 l2 : List Int} {l3 : List Bool}
set_option maxHeartbeats 16000000 in
set_option maxRecDepth 100000 in
theorem tells_no (h : PlM D B w pp k s n ms ns Vn ts vs Vt Hs Vh) (P : Pl s n ms q Fs ns ts Hs) (L : Live w k s) (hq : q ≤ 60) (X : ActM B w xf xg xh xi A1 c1 l1 A2 c2 l2 A3 c3 l3) (m : Nat) (hm : m = 2 ^ n) (jf af : Nat) (F : Env → Bool) (of : ofP ns.length xf = (jf : Int)) (uf : jf < ts.length) (ef : nodeP ns xf = (af : Int)) (tf : ts[jf]? = some (tab n F)) (nf : Nod s af (lowV n) F) (hfit : ¬ FitsP n (tab n F) l1) :
    Calls Tryz.prog 8 #[.pointer (some ⟨pp, 0, none⟩), .agg (actC 10 xf xg xh xi xb A1 l1.length c1 A2 l2.length c2 A3 l3.length c3)] w fun e w' => e = .returned (.bool true) ∧ Below w.heap.size w w' := by
  have Ho := hide of
  have Hn := hide ef
  have HM := hide hm
  have HFL := hide (show (tab n F).length = m from by rw [tab_len, hm])
  have HFP := hide (show (tab n F).length = 2 ^ n from tab_len n F)
  have HNF := hide nf
  have HTF := hide tf
  have df : decide ((jf : Int) < 0) = false := decide_eq_false (by omega)
  have ixf : ((jf : Nat) : Int) < (ts.length : Int) := by omega
  clear of ef hm nf tf
  have HFT := hide hfit
  clear hfit
  have hbx := bel_one w (.cells #[.int .u8 10, .int .i64 xf, .int .i64 xg, .int .i64 xh, .int .i64 xi, .bool xb, .slice A1 l1.length c1, .slice A2 l2.length c2, .slice A3 l3.length c3] 39)
  have HP := hide (h.below hbx)
  have HX := hide (heap_new w (.cells #[.int .u8 10, .int .i64 xf, .int .i64 xg, .int .i64 xh, .int .i64 xi, .bool xb, .slice A1 l1.length c1, .slice A2 l2.length c2, .slice A3 l3.length c3] 39))
  have HL := hide (L.below hbx)
  have HA := hide (X.below hbx)
  have HB := hide hbx
  have HPL := hide P
  have HI := hide X.f
  have n6 := P.n6
  clear h X L hbx P
  go_enter Tryz.func8, Tryz.ntmps8
  go_upto_region 1 with fail
  generalize w.alloc (.cells #[.int .u8 10, .int .i64 xf, .int .i64 xg, .int .i64 xh, .int .i64 xi, .bool xb, .slice A1 l1.length c1, .slice A2 l2.length c2, .slice A3 l3.length c3] 39) = w1 at *
  have HOF := hide (fun (z : World) (hz : PlM D B z pp k s n ms ns Vn ts vs Vt Hs Vh) => of_any hz HPL.out.two (by have := HPL.out.sm; omega) xf HI.out)
  have HND := hide (fun (z : World) (hz : PlM D B z pp k s n ms ns Vn ts vs Vt Hs Vh) => node_any hz HPL.out.two (by have := HPL.out.sm; omega) xf HI.out)
  rw [Ho.out] at HOF
  rw [Hn.out] at HND
  have x1 := cell_heap (j := 1) HX.out rfl
  go_wp2_with fail
  refine (HOF.out w1 HP.out).mono ?_
  rintro e w2 ⟨rfl, hw⟩
  subst w2
  clear x1 HOF
  have HB3x := hide (Below.refl w1.heap.size w1)
  obtain ⟨bA, hbA⟩ : ∃ b : Bool, b = if l3.length = n then atR n (tab n F) l3 else false := ⟨_, rfl⟩
  obtain ⟨eA, heA⟩ : ∃ e : Int, e = if l3.length = n then 0 else 1 := ⟨_, rfl⟩
  have HAT := hide (fun z (hz : Live z k s) (ha : ActM B z xf xg xh xi A1 c1 l1 A2 c2 l2 A3 c3 l3) => At_p HPL.out hz hq HNF.out A3 c3 l3 ha.s3)
  rw [← hbA, ← heA] at HAT
  have HbA := hide hbA
  have HeA := hide heA
  clear hbA heA
  have p0 := lat_cell (HP.out.cell (j := 0) rfl)
  have x1 := lat_cell (cell_heap (j := 1) HX.out rfl)
  have x8 := lat_cell (cell_heap (j := 8) HX.out rfl)
  have HC0 := hide (fun z => HND.out (lat w1 z) (HP.out.below (lat_below w1 z)))
  have HC1 := hide (fun z => HAT.out (lat w1 z) (HL.out.below (lat_below w1 z)) (HA.out.below (lat_below w1 z)))
  go_wp2_with fail
  refine wp_region_lat (by kernel_rfl) (by kernel_rfl) ?_
  repeat (first | go_big_quiet_step ((first | (go_at_call 14; with_reducible exact calls_lat (HC0.out _)) | (go_at_call 13; with_reducible exact calls_lat (HC1.out _)))) | quiet_step ((first | (go_at_call 14; with_reducible exact calls_lat (HC0.out _)) | (go_at_call 13; with_reducible exact calls_lat (HC1.out _)))))
  refine wpQuiet_nil ?_
  intro _ hlat
  obtain ⟨v2, rfl⟩ := hlat
  clear p0 x1 x8 HC0 HC1
  have HPq := hide (HP.out.below (lat_below w1 v2))
  have HXq := hide (heapB (lat_below w1 v2) HX.out)
  have HLq := hide (HL.out.below (lat_below w1 v2))
  have HAq := hide (HA.out.below (lat_below w1 v2))
  have HBq := hide (below_wide HB.out (lat_below w1 v2))
  have HB3q := hide (HB3x.out.trans (Below.mono (lat_below w1 v2) HB3x.out.size))
  clear HB3x
  have HB3x := HB3q
  clear HB3q
  clear HP HX HL HA HB
  have HP := HPq
  have HX := HXq
  have HL := HLq
  have HA := HAq
  have HB := HBq
  clear HPq HXq HLq HAq HBq
  generalize lat w1 v2 = w2 at *
  obtain ⟨il, hil⟩ : ∃ il : Nat, il = (inner n (tab n F) []).length := ⟨_, rfl⟩
  have HSZ := hide (fun z (hz : Live z k s) => Size_p HPL.out hz hq HNF.out)
  rw [← hil] at HSZ
  have HIL := hide hil
  clear hil HAT
  have p0 := lat_cell (HP.out.cell (j := 0) rfl)
  have x1 := lat_cell (cell_heap (j := 1) HX.out rfl)
  have HC0 := hide (fun z => HND.out (lat w2 z) (HP.out.below (lat_below w2 z)))
  have HC1 := hide (fun z => HSZ.out (lat w2 z) (HL.out.below (lat_below w2 z)))
  go_wp2_with fail
  refine wp_region_lat (by kernel_rfl) (by kernel_rfl) ?_
  repeat (first | go_big_quiet_step ((first | (go_at_call 14; with_reducible exact calls_lat (HC0.out _)) | (go_at_call 15; with_reducible exact calls_lat (HC1.out _)))) | quiet_step ((first | (go_at_call 14; with_reducible exact calls_lat (HC0.out _)) | (go_at_call 15; with_reducible exact calls_lat (HC1.out _)))))
  refine wpQuiet_nil ?_
  intro _ hlat
  obtain ⟨v3, rfl⟩ := hlat
  clear p0 x1 HC0 HC1
  have HPq := hide (HP.out.below (lat_below w2 v3))
  have HXq := hide (heapB (lat_below w2 v3) HX.out)
  have HLq := hide (HL.out.below (lat_below w2 v3))
  have HAq := hide (HA.out.below (lat_below w2 v3))
  have HBq := hide (below_wide HB.out (lat_below w2 v3))
  have HB3q := hide (HB3x.out.trans (Below.mono (lat_below w2 v3) HB3x.out.size))
  clear HB3x
  have HB3x := HB3q
  clear HB3q
  clear HP HX HL HA HB
  have HP := HPq
  have HX := HXq
  have HL := HLq
  have HA := HAq
  have HB := HBq
  clear HPq HXq HLq HAq HBq
  generalize lat w2 v3 = w3 at *
  clear HB3x HSZ
  have HB3x := hide (Below.refl w3.heap.size w3)
  have HP3 := HP
  have HX3 := HX
  have HL3 := HL
  have HA3 := HA
  have HB3 := HB
  have HSX := hide (show Below w3.heap.size w3 w3.drew from (Below.refl _ _).drew)
  have p0 := fun z => cellB (pin_in (S := Below w3.heap.size w3) HSX.out z) (HP.out.cell (j := 0) rfl)
  have x1 := fun z => cellB (pin_in (S := Below w3.heap.size w3) HSX.out z) (cell_heap (j := 1) HX.out rfl)
  go_wp2_with fail
  refine wp_region_tree ((Below w3.heap.size w3)) (fun k => ([] : List Nat).contains k) (.take [0, 1, 2, 3, 4, 5, 6] (.step 7 (.step 8 (.take [9, 10, 11, 12, 13] .done)))) (by kernel_rfl) (by kernel_rfl) (by kernel_rfl) (by kernel_rfl) (.take (.cons (.zero) (.cons (.succ (.zero)) (.cons (.succ (.succ (.zero))) (.cons (.succ (.succ (.succ (.zero)))) (.cons (.succ (.succ (.succ (.succ (.zero))))) (.cons (.succ (.succ (.succ (.succ (.succ (.zero)))))) (.cons (.succ (.succ (.succ (.succ (.succ (.succ (.zero))))))) .nil))))))) (.step (.succ (.succ (.succ (.succ (.succ (.succ (.succ (.zero)))))))) rfl (.step (.succ (.succ (.succ (.succ (.succ (.succ (.succ (.succ (.zero))))))))) rfl (.take (.cons (.succ (.succ (.succ (.succ (.succ (.succ (.succ (.succ (.succ (.zero)))))))))) (.cons (.succ (.succ (.succ (.succ (.succ (.succ (.succ (.succ (.succ (.succ (.zero))))))))))) (.cons (.succ (.succ (.succ (.succ (.succ (.succ (.succ (.succ (.succ (.succ (.succ (.zero)))))))))))) (.cons (.succ (.succ (.succ (.succ (.succ (.succ (.succ (.succ (.succ (.succ (.succ (.succ (.zero))))))))))))) (.cons (.succ (.succ (.succ (.succ (.succ (.succ (.succ (.succ (.succ (.succ (.succ (.succ (.succ (.zero)))))))))))))) .nil))))) .done)))) ?hQ ?hS ?_
  case hQ => exact fun _ _ _ _ _ h => h
  case hS => exact HSX.out
  refine wpT_take ?_
  repeat (first | go_big_quiet_step ((fail)) | quiet_step ((fail)))
  refine wpQuiet_nil ?_
  clear p0 x1
  generalize w3.drew = y0 at *
  refine wpT_step rfl ?_
  intro K1 hK1
  go_wp2_with fail
  refine (HND.out y0 (HP.out.below HSX.out)).mono ?_
  rintro e y1 ⟨rfl, hb⟩
  have HGW := hide HSX.out.size
  have HSq := hide (HSX.out.trans (hb.mono HSX.out.size))
  clear hb HSX
  have HSX := HSq
  clear HSq
  refine hK1.out _ _ (fun _ => pin_mem HSX.out) ?_
  clear hK1
  clear HGW
  refine wpT_step rfl ?_
  intro K1 hK1
  go_wp2_with fail
  refine (Support_p HPL.out (HL.out.below HSX.out) hq HNF.out).mono ?_
  rintro e w4 ⟨VS, rfl, hVS, hb⟩
  have HGW := hide HSX.out.size
  have HSq := hide (HSX.out.trans (hb.mono HSX.out.size))
  clear hb HSX
  have HSX := HSq
  clear HSq
  refine hK1.out _ _ (fun _ => pin_mem HSX.out) ?_
  clear hK1
  refine wpT_take ?_
  repeat (first | go_big_quiet_step ((fail)) | quiet_step ((fail)))
  refine wpQuiet_nil ?_
  refine wpT_done ?_
  obtain ⟨SP, hSP⟩ : ∃ SP, SP = supR n (tab n F) := ⟨_, rfl⟩
  have hsl : SP.length ≤ n := by rw [hSP]; exact supR_len n (tab n F) n
  rw [← hSP] at hVS
  have HSP := hide hSP
  clear hSP
  obtain ⟨AV, cV, rfl⟩ := own_slice hVS
  have HVS := hide (show ∃ bv, w3.heap.size ≤ bv ∧ IRow bv w4 (.slice AV SP.length cV) SP from ⟨_, HGW.out, hVS⟩)
  clear hVS HGW
  have HPq := hide (HP.out.below HSX.out)
  have HXq := hide (heapB HSX.out HX.out)
  have HLq := hide (HL.out.below HSX.out)
  have HAq := hide (HA.out.below HSX.out)
  have HBq := hide (below_wide HB.out HSX.out)
  have HB3q := hide (HB3x.out.trans (Below.mono HSX.out HB3x.out.size))
  clear HB3x
  have HB3x := HB3q
  clear HB3q
  clear HP HX HL HA HB
  have HP := HPq
  have HX := HXq
  have HL := HLq
  have HA := HAq
  have HB := HBq
  clear HPq HXq HLq HAq HBq
  clear HSX
  go_upto_region 5 with fail
  go_cut [12, 13] from 9999 (fun u v wr => ∃ c, u = .pointer (some ⟨c, 0, none⟩) ∧ v = .int .i64 1 ∧ wr.heap[c]? = some (.cells #[.int .u64 0, .int .u64 0] 61 (0, 0)) ∧ w4.heap.size ≤ c ∧ Below w4.heap.size w4 wr)
  case first =>
    have HSX := hide (show Below w4.heap.size w4 w4.drew from (Below.refl _ _).drew)
    have p0 := fun z => cellB (pin_in (S := Below w4.heap.size w4) HSX.out z) (HP.out.cell (j := 0) rfl)
    have x1 := fun z => cellB (pin_in (S := Below w4.heap.size w4) HSX.out z) (cell_heap (j := 1) HX.out rfl)
    have x6 := fun z => cellB (pin_in (S := Below w4.heap.size w4) HSX.out z) (cell_heap (j := 6) HX.out rfl)
    go_wp2_with fail
    refine wp_region_tree ((Below w4.heap.size w4)) (fun k => ([] : List Nat).contains k) (.take [0, 1, 2, 3, 4, 5, 6, 8, 9] (.fork 7 (.fork 10 (.take [11, 12, 13] (.step 14 (.step 15 (.take [16] .done)))) 14 (.step 10 (.take [11, 12, 13] (.step 15 (.take [16] .done))))) 14 (.step 7 (.step 10 (.take [11, 12, 13] (.step 15 (.take [16] .done))))))) (by kernel_rfl) (by kernel_rfl) (by kernel_rfl) (by kernel_rfl) (.take (.cons (.zero) (.cons (.succ (.zero)) (.cons (.succ (.succ (.zero))) (.cons (.succ (.succ (.succ (.zero)))) (.cons (.succ (.succ (.succ (.succ (.zero))))) (.cons (.succ (.succ (.succ (.succ (.succ (.zero)))))) (.cons (.succ (.succ (.succ (.succ (.succ (.succ (.zero))))))) (.cons (.succ (.succ (.succ (.succ (.succ (.succ (.succ (.succ (.zero))))))))) (.cons (.succ (.succ (.succ (.succ (.succ (.succ (.succ (.succ (.succ (.zero)))))))))) .nil))))))))) (.fork (.succ (.succ (.succ (.succ (.succ (.succ (.succ (.zero)))))))) rfl (.fork (.succ (.succ (.succ (.succ (.succ (.succ (.succ (.succ (.succ (.succ (.zero))))))))))) rfl (.take (.cons (.succ (.succ (.succ (.succ (.succ (.succ (.succ (.succ (.succ (.succ (.succ (.zero)))))))))))) (.cons (.succ (.succ (.succ (.succ (.succ (.succ (.succ (.succ (.succ (.succ (.succ (.succ (.zero))))))))))))) (.cons (.succ (.succ (.succ (.succ (.succ (.succ (.succ (.succ (.succ (.succ (.succ (.succ (.succ (.zero)))))))))))))) .nil))) (.step (.succ (.succ (.succ (.succ (.succ (.succ (.succ (.succ (.succ (.succ (.succ (.succ (.succ (.succ (.zero))))))))))))))) rfl (.step (.succ (.succ (.succ (.succ (.succ (.succ (.succ (.succ (.succ (.succ (.succ (.succ (.succ (.succ (.succ (.zero)))))))))))))))) rfl (.take (.cons (.succ (.succ (.succ (.succ (.succ (.succ (.succ (.succ (.succ (.succ (.succ (.succ (.succ (.succ (.succ (.succ (.zero))))))))))))))))) .nil) .done)))) (.succ (.succ (.succ (.succ (.succ (.succ (.succ (.succ (.succ (.succ (.succ (.succ (.succ (.succ (.zero))))))))))))))) rfl (.step (.succ (.succ (.succ (.succ (.succ (.succ (.succ (.succ (.succ (.succ (.zero))))))))))) rfl (.take (.cons (.succ (.succ (.succ (.succ (.succ (.succ (.succ (.succ (.succ (.succ (.succ (.zero)))))))))))) (.cons (.succ (.succ (.succ (.succ (.succ (.succ (.succ (.succ (.succ (.succ (.succ (.succ (.zero))))))))))))) (.cons (.succ (.succ (.succ (.succ (.succ (.succ (.succ (.succ (.succ (.succ (.succ (.succ (.succ (.zero)))))))))))))) .nil))) (.step (.succ (.succ (.succ (.succ (.succ (.succ (.succ (.succ (.succ (.succ (.succ (.succ (.succ (.succ (.succ (.zero)))))))))))))))) rfl (.take (.cons (.succ (.succ (.succ (.succ (.succ (.succ (.succ (.succ (.succ (.succ (.succ (.succ (.succ (.succ (.succ (.succ (.zero))))))))))))))))) .nil) .done))))) (.succ (.succ (.succ (.succ (.succ (.succ (.succ (.succ (.succ (.succ (.succ (.succ (.succ (.succ (.zero))))))))))))))) rfl (.step (.succ (.succ (.succ (.succ (.succ (.succ (.succ (.zero)))))))) rfl (.step (.succ (.succ (.succ (.succ (.succ (.succ (.succ (.succ (.succ (.succ (.zero))))))))))) rfl (.take (.cons (.succ (.succ (.succ (.succ (.succ (.succ (.succ (.succ (.succ (.succ (.succ (.zero)))))))))))) (.cons (.succ (.succ (.succ (.succ (.succ (.succ (.succ (.succ (.succ (.succ (.succ (.succ (.zero))))))))))))) (.cons (.succ (.succ (.succ (.succ (.succ (.succ (.succ (.succ (.succ (.succ (.succ (.succ (.succ (.zero)))))))))))))) .nil))) (.step (.succ (.succ (.succ (.succ (.succ (.succ (.succ (.succ (.succ (.succ (.succ (.succ (.succ (.succ (.succ (.zero)))))))))))))))) rfl (.take (.cons (.succ (.succ (.succ (.succ (.succ (.succ (.succ (.succ (.succ (.succ (.succ (.succ (.succ (.succ (.succ (.succ (.zero))))))))))))))))) .nil) .done))))))) ?hQ ?hS ?_
    case hQ => exact fun _ _ _ _ _ h => h
    case hS => exact HSX.out
    refine wpT_take ?_
    repeat (first | go_big_quiet_step ((fail)) | quiet_step ((fail)))
    refine wpQuiet_nil ?_
    clear p0 x1 x6
    generalize w4.drew = y0 at *
    refine wpT_fork ?_ ?_
    · refine wpT_step rfl ?_
      intro K1 hK1
      go_wp2_with fail
      refine (HND.out y0 (HP.out.below HSX.out)).mono ?_
      rintro e y1 ⟨rfl, hb⟩
      have HSq := hide (HSX.out.trans (hb.mono HSX.out.size))
      clear hb HSX
      have HSX := HSq
      clear HSq
      refine hK1.out _ _ (fun _ => pin_mem HSX.out) ?_
      clear hK1
      refine wpT_fork ?_ ?_
      · refine wpT_step rfl ?_
        intro K1 hK1
        go_wp2_with fail
        refine (Count_no HPL.out (HL.out.below HSX.out) hq HNF.out A1 c1 l1 (HA.out.below HSX.out).s1 (by have := HA.out.n1; omega) HFT.out).mono ?_
        rintro e y2 ⟨rfl, hb⟩
        have HSq := hide (HSX.out.trans (hb.mono HSX.out.size))
        clear hb HSX
        have HSX := HSq
        clear HSq
        refine hK1.out _ _ (fun _ => pin_mem HSX.out) ?_
        clear hK1
        refine wpT_take ?_
        repeat (first | go_big_quiet_step ((fail)) | quiet_step ((fail)))
        refine wpQuiet_nil ?_
        refine wpT_step rfl ?_
        intro K1 hK1
        go_wp2_with fail
        have HSq := hide (HSX.out.alloc HSX.out.size (Obj.cells #[.int .u64 0, .int .u64 0] 61))
        have HC12 := hide (heap_new y2 (Obj.cells #[.int .u64 0, .int .u64 0] 61))
        have HGE := hide HSX.out.size
        clear HSX
        have HSX := HSq
        clear HSq
        refine hK1.out _ _ (fun _ => pin_mem HSX.out) ?_
        clear hK1
        generalize y2.alloc (Obj.cells #[.int .u64 0, .int .u64 0] 61) = y3 at *
        generalize y2.heap.size = c12 at *
        have s0 := cell_heap (j := 0) HC12.out rfl
        have f0 := frozen_heap (j := 0) HC12.out
        have s1 := fun (u : Value) => cell_heap (j := 1) (heap_set (j := 0) (u := u) HC12.out) rfl
        have f1 := fun (u : Value) => frozen_heap (j := 1) (heap_set (j := 0) (u := u) HC12.out)
        refine wpT_step rfl ?_
        intro K1 hK1
        go_wp2_with fail
        have HSq := hide ((HSX.out.setCell (p := ⟨c12, 0, none⟩) HGE.out (.int .u64 0)).setCell (p := ⟨c12, 1, none⟩) HGE.out (.int .u64 0))
        have HCq := hide (show ((y3.setCell ⟨c12, 0, none⟩ (.int .u64 0)).setCell ⟨c12, 1, none⟩ (.int .u64 0)).heap[c12]? = some (.cells #[.int .u64 0, .int .u64 0] 61 (0, 0)) from heap_set (j := 1) (u := .int .u64 0) (heap_set (j := 0) (u := .int .u64 0) HC12.out))
        clear s0 f0 s1 f1
        refine hK1.out _ _ (fun _ => pin_mem HSq.out) ?_
        clear hK1
        refine wpT_take ?_
        repeat (first | go_big_quiet_step ((fail)) | quiet_step ((fail)))
        refine wpQuiet_nil ?_
        refine wpT_done ?_
        go_wp2_with fail
        go_meet
        case rel => exact ⟨c12, rfl, rfl, HCq.out, HGE.out, HSq.out⟩
      · refine wpT_step rfl ?_
        intro K1 hK1
        go_wp2_with fail
        have HSq := hide (HSX.out.alloc HSX.out.size (Obj.cells #[.int .u64 0, .int .u64 0] 61))
        have HC12 := hide (heap_new y1 (Obj.cells #[.int .u64 0, .int .u64 0] 61))
        have HGE := hide HSX.out.size
        clear HSX
        have HSX := HSq
        clear HSq
        refine hK1.out _ _ (fun _ => pin_mem HSX.out) ?_
        clear hK1
        generalize y1.alloc (Obj.cells #[.int .u64 0, .int .u64 0] 61) = y2 at *
        generalize y1.heap.size = c12 at *
        refine wpT_step rfl ?_
        intro K1 hK1
        go_wp2_with fail
        refine (Count_no HPL.out (HL.out.below HSX.out) hq HNF.out A1 c1 l1 (HA.out.below HSX.out).s1 (by have := HA.out.n1; omega) HFT.out).mono ?_
        rintro e y3 ⟨rfl, hb⟩
        have HSq := hide (HSX.out.trans (hb.mono HSX.out.size))
        have HCq := hide (heapB hb HC12.out)
        clear HC12
        have HC12 := HCq
        clear HCq
        clear hb HSX
        have HSX := HSq
        clear HSq
        refine hK1.out _ _ (fun _ => pin_mem HSX.out) ?_
        clear hK1
        refine wpT_take ?_
        repeat (first | go_big_quiet_step ((fail)) | quiet_step ((fail)))
        refine wpQuiet_nil ?_
        have s0 := cell_heap (j := 0) HC12.out rfl
        have f0 := frozen_heap (j := 0) HC12.out
        have s1 := fun (u : Value) => cell_heap (j := 1) (heap_set (j := 0) (u := u) HC12.out) rfl
        have f1 := fun (u : Value) => frozen_heap (j := 1) (heap_set (j := 0) (u := u) HC12.out)
        refine wpT_step rfl ?_
        intro K1 hK1
        go_wp2_with fail
        have HSq := hide ((HSX.out.setCell (p := ⟨c12, 0, none⟩) HGE.out (.int .u64 0)).setCell (p := ⟨c12, 1, none⟩) HGE.out (.int .u64 0))
        have HCq := hide (show ((y3.setCell ⟨c12, 0, none⟩ (.int .u64 0)).setCell ⟨c12, 1, none⟩ (.int .u64 0)).heap[c12]? = some (.cells #[.int .u64 0, .int .u64 0] 61 (0, 0)) from heap_set (j := 1) (u := .int .u64 0) (heap_set (j := 0) (u := .int .u64 0) HC12.out))
        clear s0 f0 s1 f1
        refine hK1.out _ _ (fun _ => pin_mem HSq.out) ?_
        clear hK1
        refine wpT_take ?_
        repeat (first | go_big_quiet_step ((fail)) | quiet_step ((fail)))
        refine wpQuiet_nil ?_
        refine wpT_done ?_
        go_wp2_with fail
        go_meet
        case rel => exact ⟨c12, rfl, rfl, HCq.out, HGE.out, HSq.out⟩
    · refine wpT_step rfl ?_
      intro K1 hK1
      go_wp2_with fail
      have HSq := hide (HSX.out.alloc HSX.out.size (Obj.cells #[.int .u64 0, .int .u64 0] 61))
      have HC12 := hide (heap_new y0 (Obj.cells #[.int .u64 0, .int .u64 0] 61))
      have HGE := hide HSX.out.size
      clear HSX
      have HSX := HSq
      clear HSq
      refine hK1.out _ _ (fun _ => pin_mem HSX.out) ?_
      clear hK1
      generalize y0.alloc (Obj.cells #[.int .u64 0, .int .u64 0] 61) = y1 at *
      generalize y0.heap.size = c12 at *
      refine wpT_step rfl ?_
      intro K1 hK1
      go_wp2_with fail
      refine (HND.out y1 (HP.out.below HSX.out)).mono ?_
      rintro e y2 ⟨rfl, hb⟩
      have HSq := hide (HSX.out.trans (hb.mono HSX.out.size))
      have HCq := hide (heapB hb HC12.out)
      clear HC12
      have HC12 := HCq
      clear HCq
      clear hb HSX
      have HSX := HSq
      clear HSq
      refine hK1.out _ _ (fun _ => pin_mem HSX.out) ?_
      clear hK1
      refine wpT_step rfl ?_
      intro K1 hK1
      go_wp2_with fail
      refine (Count_no HPL.out (HL.out.below HSX.out) hq HNF.out A1 c1 l1 (HA.out.below HSX.out).s1 (by have := HA.out.n1; omega) HFT.out).mono ?_
      rintro e y3 ⟨rfl, hb⟩
      have HSq := hide (HSX.out.trans (hb.mono HSX.out.size))
      have HCq := hide (heapB hb HC12.out)
      clear HC12
      have HC12 := HCq
      clear HCq
      clear hb HSX
      have HSX := HSq
      clear HSq
      refine hK1.out _ _ (fun _ => pin_mem HSX.out) ?_
      clear hK1
      refine wpT_take ?_
      repeat (first | go_big_quiet_step ((fail)) | quiet_step ((fail)))
      refine wpQuiet_nil ?_
      have s0 := cell_heap (j := 0) HC12.out rfl
      have f0 := frozen_heap (j := 0) HC12.out
      have s1 := fun (u : Value) => cell_heap (j := 1) (heap_set (j := 0) (u := u) HC12.out) rfl
      have f1 := fun (u : Value) => frozen_heap (j := 1) (heap_set (j := 0) (u := u) HC12.out)
      refine wpT_step rfl ?_
      intro K1 hK1
      go_wp2_with fail
      have HSq := hide ((HSX.out.setCell (p := ⟨c12, 0, none⟩) HGE.out (.int .u64 0)).setCell (p := ⟨c12, 1, none⟩) HGE.out (.int .u64 0))
      have HCq := hide (show ((y3.setCell ⟨c12, 0, none⟩ (.int .u64 0)).setCell ⟨c12, 1, none⟩ (.int .u64 0)).heap[c12]? = some (.cells #[.int .u64 0, .int .u64 0] 61 (0, 0)) from heap_set (j := 1) (u := .int .u64 0) (heap_set (j := 0) (u := .int .u64 0) HC12.out))
      clear s0 f0 s1 f1
      refine hK1.out _ _ (fun _ => pin_mem HSq.out) ?_
      clear hK1
      refine wpT_take ?_
      repeat (first | go_big_quiet_step ((fail)) | quiet_step ((fail)))
      refine wpQuiet_nil ?_
      refine wpT_done ?_
      go_wp2_with fail
      go_meet
      case rel => exact ⟨c12, rfl, rfl, HCq.out, HGE.out, HSq.out⟩
  case rest =>
    obtain ⟨c12, rfl, rfl, hc12, hge, hbr⟩ := hcut
    generalize wc = w5 at *
    have HC12 := hide hc12
    have HGE := hide (show w3.heap.size ≤ c12 from Nat.le_trans HB3x.out.size hge)
    have HPq := hide (HP.out.below hbr)
    have HXq := hide (heapB hbr HX.out)
    have HLq := hide (HL.out.below hbr)
    have HAq := hide (HA.out.below hbr)
    have HBq := hide (below_wide HB.out hbr)
    have HB3q := hide (HB3x.out.trans (Below.mono hbr HB3x.out.size))
    clear HB3x
    have HB3x := HB3q
    clear HB3q
    have HVq := hide (show ∃ bv, w3.heap.size ≤ bv ∧ IRow bv _ (.slice AV SP.length cV) SP from ⟨_, HVS.out.choose_spec.1, own_below HVS.out.choose_spec.2 hbr⟩)
    clear HVS
    have HVS := HVq
    clear HVq
    clear HP HX HL HA HB
    have HP := HPq
    have HX := HXq
    have HL := HLq
    have HA := HAq
    have HB := HBq
    clear HPq HXq HLq HAq HBq
    clear hc12 hbr hge
    have p0 := lat_cell (HP.out.cell (j := 0) rfl)
    have x1 := lat_cell (cell_heap (j := 1) HX.out rfl)
    have x6 := lat_cell (cell_heap (j := 6) HX.out rfl)
    have HC0 := hide (fun z => HND.out (lat w5 z) (HP.out.below (lat_below w5 z)))
    have HC1 := hide (fun z => Least_no HPL.out (HL.out.below (lat_below w5 z)) hq HNF.out A1 c1 l1 (HA.out.below (lat_below w5 z)).s1 (by have := HA.out.n1; omega) HFT.out)
    go_wp2_with fail
    refine wp_region_lat (by kernel_rfl) (by kernel_rfl) ?_
    repeat (first | go_big_quiet_step ((first | (go_at_call 14; with_reducible exact calls_lat (HC0.out _)) | (go_at_call 18; with_reducible exact calls_lat (HC1.out _)))) | quiet_step ((first | (go_at_call 14; with_reducible exact calls_lat (HC0.out _)) | (go_at_call 18; with_reducible exact calls_lat (HC1.out _)))))
    refine wpQuiet_nil ?_
    intro _ hlat
    obtain ⟨v6, rfl⟩ := hlat
    clear p0 x1 x6 HC0 HC1
    have HPq := hide (HP.out.below (lat_below w5 v6))
    have HXq := hide (heapB (lat_below w5 v6) HX.out)
    have HLq := hide (HL.out.below (lat_below w5 v6))
    have HAq := hide (HA.out.below (lat_below w5 v6))
    have HBq := hide (below_wide HB.out (lat_below w5 v6))
    have HB3q := hide (HB3x.out.trans (Below.mono (lat_below w5 v6) HB3x.out.size))
    clear HB3x
    have HB3x := HB3q
    clear HB3q
    have HVq := hide (show ∃ bv, w3.heap.size ≤ bv ∧ IRow bv _ (.slice AV SP.length cV) SP from ⟨_, HVS.out.choose_spec.1, own_below HVS.out.choose_spec.2 (lat_below w5 v6)⟩)
    clear HVS
    have HVS := HVq
    clear HVq
    have HCq := hide (heapB (lat_below w5 v6) HC12.out)
    clear HC12
    have HC12 := HCq
    clear HCq
    clear HP HX HL HA HB
    have HP := HPq
    have HX := HXq
    have HL := HLq
    have HA := HAq
    have HB := HBq
    clear HPq HXq HLq HAq HBq
    generalize lat w5 v6 = w6 at *
    obtain ⟨ad, cT, gt, hVt, tcf, hrf⟩ := HP.out.row HM.out HTF.out
    subst hVt
    have HRF := hide hrf
    have p4 := HP.out.cell (j := 4) rfl
    go_upto_region 10 with fail
    clear p4 tcf hrf
    go_cut [185] from 9999 (fun u wr => u = .bool false ∧ Below w6.heap.size w6 wr)
    case first =>
      by_cases hv : l3.length = n
      · skip
        have hb0' := HbA.out
        have he0 := HeA.out
        rw [if_pos hv] at hb0' he0
        subst he0
        have d1 : ((l3.length : Int) != (n : Int)) = false := by rw [hv]; simp
        have d2 : ((l3.length : Int) == (n : Int)) = true := by rw [hv]; simp
        have HV := hide hv
        have HBQ := hide hb0'
        have HRA := hide (fun z => (At_tab n (tab n F) l3 (some ⟨gt, 0, none⟩) A3 (tab n F).length c3 (lat w6 z) n6 (HRF.out.below (lat_below w6 z)).src HFP.out (HA.out.below (lat_below w6 z)).s3 HV.out).mono (fun e w' (hh : e = .returned (.bool (atR n (tab n F) l3)) ∧ w' = lat w6 z) => (show e = .returned (.bool bA) ∧ lat w6 z = w' from ⟨by rw [hh.1, HBQ.out], hh.2.symm⟩)))
        rw [HFL.out] at HRA
        have hbb : (bA != bA) = false := by cases bA <;> rfl
        clear hv hb0'
        have p1 := lat_cell (HP.out.cell (j := 1) rfl)
        have x8 := lat_cell (cell_heap (j := 8) HX.out rfl)
        go_wp2_with fail
        refine wp_region_lat (by kernel_rfl) (lex_of (by kernel_rfl) lex10) ?_
        repeat (first | go_big_quiet_step ((go_at_call 19; with_reducible exact calls_lat_same (HRA.out _))) | quiet_step ((go_at_call 19; with_reducible exact calls_lat_same (HRA.out _))))
        refine wpQuiet_nil ?_
        intro _ hlat
        obtain ⟨v10, rfl⟩ := hlat
        go_wp2_with fail
        go_meet
        case rel => exact ⟨rfl, lat_below _ _⟩
      · skip
        have hb0' := HbA.out
        have he0 := HeA.out
        rw [if_neg hv] at hb0' he0
        subst he0 hb0'
        have d1 : ((l3.length : Int) != (n : Int)) = true := bne_iff_ne.2 (by omega)
        have d2 : ((l3.length : Int) == (n : Int)) = false := beq_if (by omega)
        clear hv
        have p1 := lat_cell (HP.out.cell (j := 1) rfl)
        have x8 := lat_cell (cell_heap (j := 8) HX.out rfl)
        go_wp2_with fail
        refine wp_region_lat (by kernel_rfl) (lex_of (by kernel_rfl) lex10) ?_
        repeat (first | go_big_quiet_step ((fail)) | quiet_step ((fail)))
        refine wpQuiet_nil ?_
        intro _ hlat
        obtain ⟨v10, rfl⟩ := hlat
        go_wp2_with fail
        go_meet
        case rel => exact ⟨rfl, lat_below _ _⟩
    case rest =>
      obtain ⟨rfl, hbr⟩ := hcut
      generalize wc = w7 at *
      have HPq := hide (HP.out.below hbr)
      have HXq := hide (heapB hbr HX.out)
      have HLq := hide (HL.out.below hbr)
      have HAq := hide (HA.out.below hbr)
      have HBq := hide (below_wide HB.out hbr)
      have HB3q := hide (HB3x.out.trans (Below.mono hbr HB3x.out.size))
      clear HB3x
      have HB3x := HB3q
      clear HB3q
      have HVq := hide (show ∃ bv, w3.heap.size ≤ bv ∧ IRow bv _ (.slice AV SP.length cV) SP from ⟨_, HVS.out.choose_spec.1, own_below HVS.out.choose_spec.2 hbr⟩)
      clear HVS
      have HVS := HVq
      clear HVq
      have HCq := hide (heapB hbr HC12.out)
      clear HC12
      have HC12 := HCq
      clear HCq
      have HRq := hide (HRF.out.below hbr)
      clear HRF
      have HRF := HRq
      clear HRq
      clear HP HX HL HA HB
      have HP := HPq
      have HX := HXq
      have HL := HLq
      have HA := HAq
      have HB := HBq
      clear HPq HXq HLq HAq HBq
      clear hbr HbA HeA
      have p1 := HP.out.cell (j := 1) rfl
      have hin := Inner_any n (tab n F) gt 0 none 0 [] w7 n6 HRF.out HFP.out ⟨rfl, .inl ⟨rfl, rfl⟩⟩ (by simp) (Nat.zero_le _)
      rw [HFL.out] at hin
      have HIN := hide hin
      have d0 : ((il : Int) != (il : Int)) = false := by simp
      clear hin
      go_wp2_with fail
      refine HIN.out.mono ?_
      rintro e w8 ⟨VI, rfl, hd⟩
      have hb : Below w7.heap.size w7 w8 := grown_none rfl hd.fr
      have hle := hd.own
      obtain ⟨AI, cI, rfl⟩ := own_slice hle
      rw [← HIL.out]
      clear hle hd HIN p1
      have HPq := hide (HP.out.below hb)
      have HXq := hide (heapB hb HX.out)
      have HLq := hide (HL.out.below hb)
      have HAq := hide (HA.out.below hb)
      have HBq := hide (below_wide HB.out hb)
      have HB3q := hide (HB3x.out.trans (Below.mono hb HB3x.out.size))
      clear HB3x
      have HB3x := HB3q
      clear HB3q
      have HVq := hide (show ∃ bv, w3.heap.size ≤ bv ∧ IRow bv _ (.slice AV SP.length cV) SP from ⟨_, HVS.out.choose_spec.1, own_below HVS.out.choose_spec.2 hb⟩)
      clear HVS
      have HVS := HVq
      clear HVq
      have HCq := hide (heapB hb HC12.out)
      clear HC12
      have HC12 := HCq
      clear HCq
      have HRq := hide (HRF.out.below hb)
      clear HRF
      have HRF := HRq
      clear HRq
      clear HP HX HL HA HB
      have HP := HPq
      have HX := HXq
      have HL := HLq
      have HA := HAq
      have HB := HBq
      clear HPq HXq HLq HAq HBq
      clear hb
      have p1 := HP.out.cell (j := 1) rfl
      have hst := Support_tab n (tab n F) (some ⟨gt, 0, none⟩) (tab n F).length w8 n6 HRF.out.src HFP.out
      rw [HFL.out] at hst
      have HST := hide hst
      clear hst
      go_wp2_with fail
      refine HST.out.mono ?_
      rintro e w9 ⟨V9, rfl, hV9, hb⟩
      rw [← HSP.out] at hV9
      obtain ⟨A9, c9, rfl⟩ := own_slice hV9
      have H9 := hide hV9
      clear hV9 HST p1
      have HPq := hide (HP.out.below hb)
      have HXq := hide (heapB hb HX.out)
      have HLq := hide (HL.out.below hb)
      have HAq := hide (HA.out.below hb)
      have HBq := hide (below_wide HB.out hb)
      have HB3q := hide (HB3x.out.trans (Below.mono hb HB3x.out.size))
      clear HB3x
      have HB3x := HB3q
      clear HB3q
      have HVq := hide (show ∃ bv, w3.heap.size ≤ bv ∧ IRow bv _ (.slice AV SP.length cV) SP from ⟨_, HVS.out.choose_spec.1, own_below HVS.out.choose_spec.2 hb⟩)
      clear HVS
      have HVS := HVq
      clear HVq
      have HCq := hide (heapB hb HC12.out)
      clear HC12
      have HC12 := HCq
      clear HCq
      have HRq := hide (HRF.out.below hb)
      clear HRF
      have HRF := HRq
      clear HRq
      clear HP HX HL HA HB
      have HP := HPq
      have HX := HXq
      have HL := HLq
      have HA := HAq
      have HB := HBq
      clear HPq HXq HLq HAq HBq
      clear hb
      have hsi := sameInts_any AV A9 cV c9 (encL SP) (encL SP) w9 (by rw [encL_len]; exact src_of_own HVS.out.choose_spec.2) (by rw [encL_len]; exact src_of_own H9.out) (by rw [encL_len]; unfold maxLen; omega) (by rw [encL_len]; unfold maxLen; omega)
      rw [encL_len, decide_eq_true rfl] at hsi
      have HSI := hide hsi
      clear hsi
      go_upto_block 0 with fail
      refine HSI.out.mono ?_
      rintro e w10 ⟨rfl, hb⟩
      clear HSI H9
      have HPq := hide (HP.out.below hb)
      have HXq := hide (heapB hb HX.out)
      have HLq := hide (HL.out.below hb)
      have HAq := hide (HA.out.below hb)
      have HBq := hide (below_wide HB.out hb)
      have HB3q := hide (HB3x.out.trans (Below.mono hb HB3x.out.size))
      clear HB3x
      have HB3x := HB3q
      clear HB3q
      have HVq := hide (show ∃ bv, w3.heap.size ≤ bv ∧ IRow bv _ (.slice AV SP.length cV) SP from ⟨_, HVS.out.choose_spec.1, own_below HVS.out.choose_spec.2 hb⟩)
      clear HVS
      have HVS := HVq
      clear HVq
      have HCq := hide (heapB hb HC12.out)
      clear HC12
      have HC12 := HCq
      clear HCq
      have HRq := hide (HRF.out.below hb)
      clear HRF
      have HRF := HRq
      clear HRq
      clear HP HX HL HA HB
      have HP := HPq
      have HX := HXq
      have HL := HLq
      have HA := HAq
      have HB := HBq
      clear HPq HXq HLq HAq HBq
      clear hb
      have HW10 := hide HB3x.out.size
      go_upto_block 0 with fail
      go_cut [17] from 9999 (fun _ wr => Below w3.heap.size w10 wr ∧ wr.heap[c12]? = some (.cells #[.int .u64 0, .int .u64 0] 61 (0, 0)) ∧ Bools w10 wr)
      case first =>
        rcases HVS.out.choose_spec.2.2 with ⟨hV, hz⟩ | ⟨gv, cap, cur, hV, hcap, hcur, hnc, hcm, hcs, hct⟩
        · injection hV with e1 e2 e3
          subst e1 e3
          have HL0 := hide e2
          clear hz e2
          go_wp2_with fail
          go_loopw [17] (fun j wr => j = .int .i64 0 ∧ wr = w10) (fun _ _ => 0)
          case atStart => exact ⟨rfl, rfl⟩
          case round =>
            obtain ⟨rfl, rfl⟩ := hrel
            have d1 : decide ((0 : Int) < (SP.length : Int)) = false := decide_eq_false (by have := HL0.out; omega)
            have d2 : decide (0 < SP.length) = false := decide_eq_false (by have := HL0.out; omega)
            go_wp2_with fail
            go_meet
            case rel => exact ⟨(Below.refl _ _).mono HW10.out, HC12.out, Bools.refl _⟩
        · cases hV
          have HCU := hide (show ∃ cur : Array Value, w10.heap[gv]? = some (.cells cur 3 (0, 0)) ∧ SP.length ≤ cur.size from ⟨cur, hcur, by omega⟩)
          have HGV := hide (show w3.heap.size ≤ gv from Nat.le_trans HVS.out.choose_spec.1 hcap)
          clear hcap hcur hnc hcm hcs hct
          go_wp2_with fail
          go_loopw [17] (fun j wr => ∃ i : Nat, j = .int .i64 i ∧ i ≤ SP.length ∧ (∃ cur : Array Value, wr.heap[gv]? = some (.cells cur 3 (0, 0)) ∧ SP.length ≤ cur.size) ∧ Below w3.heap.size w10 wr ∧ wr.heap[c12]? = some (.cells #[.int .u64 0, .int .u64 0] 61 (0, 0)) ∧ Bools w10 wr) (fun j _ => SP.length - (intOf j).toNat)
          case atStart => exact ⟨0, rfl, Nat.zero_le _, HCU.out, (Below.refl _ _).mono HW10.out, HC12.out, Bools.refl _⟩
          case round =>
            obtain ⟨i, rfl, hi, ⟨cur, hcu, hsz⟩, hrl⟩ := hrel
            have HR := hide hrl
            clear hrl
            rcases Nat.lt_or_ge i SP.length with hlt | hge
            · have d1 : decide (i < SP.length) = true := decide_eq_true hlt
              have d1' : decide ((i : Int) < (SP.length : Int)) = true := decide_eq_true (by omega)
              have d2 : ((i : Int) < (SP.length : Int)) := by omega
              obtain ⟨uu, huu⟩ : ∃ u, cur[i]? = some u := ⟨_, Array.getElem?_eq_getElem (by omega)⟩
              have hcl := cell_heap (j := i) hcu huu
              have hfr := frozen_heap (j := i) hcu
              have HLT := hide hlt
              have HN := hide (show (∃ cur : Array Value, (wr.setCell ⟨gv, i, none⟩ (.int .i64 (-1))).heap[gv]? = some (.cells cur 3 (0, 0)) ∧ SP.length ≤ cur.size) from ⟨_, heap_set (j := i) (u := .int .i64 (-1)) hcu, by simpa using hsz⟩)
              have HN2 := hide (show Below w3.heap.size w10 (wr.setCell ⟨gv, i, none⟩ (.int .i64 (-1))) ∧ (wr.setCell ⟨gv, i, none⟩ (.int .i64 (-1))).heap[c12]? = some (.cells #[.int .u64 0, .int .u64 0] 61 (0, 0)) ∧ Bools w10 (wr.setCell ⟨gv, i, none⟩ (.int .i64 (-1))) from ⟨HR.out.1.setCell (p := ⟨gv, i, none⟩) HGV.out _, heap_far HR.out.2.1 (heap_ne HR.out.2.1 hcu (by decide)), HR.out.2.2.trans (Bools.grown grown_set (fun b hb => by cases hb; exact ⟨cur, _, hcu, by decide⟩))⟩)
              clear hlt huu
              go_wp2_with fail
              go_roundw
              case rel => exact ⟨i + 1, by go_num, HLT.out, HN.out, HN2.out⟩
              case measure => have := HLT.out; simp [intOf]; omega
            · obtain rfl : i = SP.length := by omega
              have d1 : decide (SP.length < SP.length) = false := decide_eq_false (by omega)
              have d1' : decide ((SP.length : Int) < (SP.length : Int)) = false := decide_eq_false (by omega)
              clear hcu hsz
              go_wp2_with fail
              go_meet
              case rel => exact HR.out
      case rest =>
        obtain ⟨hb, hc12, hbo⟩ := hcut
        generalize wc = w11 at *
        have HRq := hide (hbo gt _ HRF.out)
        clear HRF
        have HRF := HRq
        clear HRq
        clear HC12
        have HC12 := hide hc12
        have hb3 := HB3x.out.trans hb
        clear HP HX HL HA HB HVS hc12 hbo hb HB3x
        have HP := hide (HP3.out.below hb3)
        have HX := hide (heapB hb3 HX3.out)
        have HL := hide (HL3.out.below hb3)
        have HA := hide (HA3.out.below hb3)
        have HB := hide (below_wide HB3.out hb3)
        clear HP3 HX3 HL3 HA3 HB3 hb3
        have HB3x := hide (Below.refl w11.heap.size w11)
        have HFI := hide (fun z (hz : BRow z gt (tab n F)) (ha : ActM B z xf xg xh xi A1 c1 l1 A2 c2 l2 A3 c3 l3) => (Fits_any n (tab n F) l1 (some ⟨gt, 0, none⟩) A1 (tab n F).length c1 z n6 hz.src HFP.out ha.s1 (len_max ha.n1)).mono (fun e w' (hh : FitsOut n (tab n F) l1 z e w') => (show e = .returned (.bool false) ∧ Below z.heap.size z w' from by
          obtain ⟨b, he, hb, hbl⟩ := hh
          refine ⟨?_, hbl⟩
          cases b with
          | true => exact absurd (hb.1 rfl) HFT.out
          | false => exact he)))
        rw [HFL.out] at HFI
        have p1 := lat_cell (HP.out.cell (j := 1) rfl)
        have x6 := lat_cell (cell_heap (j := 6) HX.out rfl)
        have HC0 := hide (fun z => HFI.out (lat w11 z) (HRF.out.below (lat_below w11 z)) (HA.out.below (lat_below w11 z)))
        go_wp2_with fail
        refine wp_region_lat (by kernel_rfl) (by kernel_rfl) ?_
        repeat (first | go_big_quiet_step (((go_at_call 22; with_reducible exact calls_lat (HC0.out _)))) | quiet_step (((go_at_call 22; with_reducible exact calls_lat (HC0.out _)))))
        refine wpQuiet_nil ?_
        intro _ hlat
        obtain ⟨v12, rfl⟩ := hlat
        clear p1 x6 HC0
        have HPq := hide (HP.out.below (lat_below w11 v12))
        have HXq := hide (heapB (lat_below w11 v12) HX.out)
        have HLq := hide (HL.out.below (lat_below w11 v12))
        have HAq := hide (HA.out.below (lat_below w11 v12))
        have HBq := hide (below_wide HB.out (lat_below w11 v12))
        have HB3q := hide (HB3x.out.trans (Below.mono (lat_below w11 v12) HB3x.out.size))
        clear HB3x
        have HB3x := HB3q
        clear HB3q
        have HCq := hide (heapB (lat_below w11 v12) HC12.out)
        clear HC12
        have HC12 := HCq
        clear HCq
        have HRq := hide (HRF.out.below (lat_below w11 v12))
        clear HRF
        have HRF := HRq
        clear HRq
        clear HP HX HL HA HB
        have HP := HPq
        have HX := HXq
        have HL := HLq
        have HA := HAq
        have HB := HBq
        clear HPq HXq HLq HAq HBq
        generalize lat w11 v12 = w12 at *
        clear HFI
        have e0 := cell_heap (j := 0) HC12.out rfl
        have e1 := cell_heap (j := 1) HC12.out rfl
        go_wp2_with fail
        go_ret
        exact ⟨rfl, HB.out⟩
end
end Go.Proofs.YtgfjdkkfgclhjaaGreat.Bd
/- tells, walked (printed by gen_fa.py). -/
namespace Go.Proofs.YtgfjdkkfgclhjaaGreat.Bd
open Go.RowKit Go.Proofs.YtgfjdkkfgclhjaaGreat Go.Proofs.YtgfjdkkfgclhjaaGreat.Lx Go.Maps

section
variable {D : Nat → Array Value → TypeId → Prop} {B : Nat} {w w' : World} {pp : Nat} {k : Blk} {s : St} {n ms q : Nat} {ns : List Nat} {Vn : Value} {ts : List Tb} {vs : List Value} {Vt : Value} {Hs : List Tb} {Vh : Value} {Fs : List (Env → Bool)} {xf xg xh xi : Int} {xb : Bool} {A1 A2 A3 : Option Addr} {c1 c2 c3 : Nat} {l1 l2 : List Int} {l3 : List Bool}
set_option maxHeartbeats 16000000 in
set_option maxRecDepth 100000 in
theorem tells_none (h : PlM D B w pp k s n ms ns Vn ts vs Vt Hs Vh) (P : Pl s n ms q Fs ns ts Hs) (L : Live w k s) (hq : q ≤ 60) (X : ActM B w xf xg xh xi A1 c1 l1 A2 c2 l2 A3 c3 l3) (m : Nat) (hm : m = 2 ^ n) (jf af : Nat) (F : Env → Bool) (of : ofP ns.length xf = (jf : Int)) (uf : jf < ts.length) (ef : nodeP ns xf = (af : Int)) (tf : ts[jf]? = some (tab n F)) (nf : Nod s af (lowV n) F) (m1 : List Nat) (hl1 : l1 = encL m1) (hfit : FitsP n (tab n F) (encL m1)) (hr : Rise m1) (hm1 : ∀ x ∈ m1, x < n) (hs : ∀ v ∈ supR n (tab n F), v ∈ m1) (hle : leastR n (tab n F) m1 = none) :
    Calls Tryz.prog 8 #[.pointer (some ⟨pp, 0, none⟩), .agg (actC 10 xf xg xh xi xb A1 l1.length c1 A2 l2.length c2 A3 l3.length c3)] w fun e w' => e = .returned (.bool true) ∧ Below w.heap.size w w' := by
  have Ho := hide of
  have Hn := hide ef
  have HM := hide hm
  have HFL := hide (show (tab n F).length = m from by rw [tab_len, hm])
  have HFP := hide (show (tab n F).length = 2 ^ n from tab_len n F)
  have HNF := hide nf
  have HTF := hide tf
  have df : decide ((jf : Int) < 0) = false := decide_eq_false (by omega)
  have ixf : ((jf : Nat) : Int) < (ts.length : Int) := by omega
  clear of ef hm nf tf
  subst hl1
  have HFT := hide hfit
  have HRI := hide hr
  have HMV := hide hm1
  have HSU := hide hs
  have HLE := hide hle
  have HSM := hide (show m1.length ≤ 6 from Nat.le_trans (small_rows (hr.imp (fun h => by omega)) hm1) P.n6)
  clear hfit hr hm1 hs hle
  have hbx := bel_one w (.cells #[.int .u8 10, .int .i64 xf, .int .i64 xg, .int .i64 xh, .int .i64 xi, .bool xb, .slice A1 (encL m1).length c1, .slice A2 l2.length c2, .slice A3 l3.length c3] 39)
  have HP := hide (h.below hbx)
  have HX := hide (heap_new w (.cells #[.int .u8 10, .int .i64 xf, .int .i64 xg, .int .i64 xh, .int .i64 xi, .bool xb, .slice A1 (encL m1).length c1, .slice A2 l2.length c2, .slice A3 l3.length c3] 39))
  have HL := hide (L.below hbx)
  have HA := hide (X.below hbx)
  have HB := hide hbx
  have HPL := hide P
  have HI := hide X.f
  have n6 := P.n6
  clear h X L hbx P
  go_enter Tryz.func8, Tryz.ntmps8
  go_upto_region 1 with fail
  generalize w.alloc (.cells #[.int .u8 10, .int .i64 xf, .int .i64 xg, .int .i64 xh, .int .i64 xi, .bool xb, .slice A1 (encL m1).length c1, .slice A2 l2.length c2, .slice A3 l3.length c3] 39) = w1 at *
  have HOF := hide (fun (z : World) (hz : PlM D B z pp k s n ms ns Vn ts vs Vt Hs Vh) => of_any hz HPL.out.two (by have := HPL.out.sm; omega) xf HI.out)
  have HND := hide (fun (z : World) (hz : PlM D B z pp k s n ms ns Vn ts vs Vt Hs Vh) => node_any hz HPL.out.two (by have := HPL.out.sm; omega) xf HI.out)
  rw [Ho.out] at HOF
  rw [Hn.out] at HND
  have x1 := cell_heap (j := 1) HX.out rfl
  go_wp2_with fail
  refine (HOF.out w1 HP.out).mono ?_
  rintro e w2 ⟨rfl, hw⟩
  subst w2
  clear x1 HOF
  have HB3x := hide (Below.refl w1.heap.size w1)
  obtain ⟨bA, hbA⟩ : ∃ b : Bool, b = if l3.length = n then atR n (tab n F) l3 else false := ⟨_, rfl⟩
  obtain ⟨eA, heA⟩ : ∃ e : Int, e = if l3.length = n then 0 else 1 := ⟨_, rfl⟩
  have HAT := hide (fun z (hz : Live z k s) (ha : ActM B z xf xg xh xi A1 c1 (encL m1) A2 c2 l2 A3 c3 l3) => At_p HPL.out hz hq HNF.out A3 c3 l3 ha.s3)
  rw [← hbA, ← heA] at HAT
  have HbA := hide hbA
  have HeA := hide heA
  clear hbA heA
  have p0 := lat_cell (HP.out.cell (j := 0) rfl)
  have x1 := lat_cell (cell_heap (j := 1) HX.out rfl)
  have x8 := lat_cell (cell_heap (j := 8) HX.out rfl)
  have HC0 := hide (fun z => HND.out (lat w1 z) (HP.out.below (lat_below w1 z)))
  have HC1 := hide (fun z => HAT.out (lat w1 z) (HL.out.below (lat_below w1 z)) (HA.out.below (lat_below w1 z)))
  go_wp2_with fail
  refine wp_region_lat (by kernel_rfl) (by kernel_rfl) ?_
  repeat (first | go_big_quiet_step ((first | (go_at_call 14; with_reducible exact calls_lat (HC0.out _)) | (go_at_call 13; with_reducible exact calls_lat (HC1.out _)))) | quiet_step ((first | (go_at_call 14; with_reducible exact calls_lat (HC0.out _)) | (go_at_call 13; with_reducible exact calls_lat (HC1.out _)))))
  refine wpQuiet_nil ?_
  intro _ hlat
  obtain ⟨v2, rfl⟩ := hlat
  clear p0 x1 x8 HC0 HC1
  have HPq := hide (HP.out.below (lat_below w1 v2))
  have HXq := hide (heapB (lat_below w1 v2) HX.out)
  have HLq := hide (HL.out.below (lat_below w1 v2))
  have HAq := hide (HA.out.below (lat_below w1 v2))
  have HBq := hide (below_wide HB.out (lat_below w1 v2))
  have HB3q := hide (HB3x.out.trans (Below.mono (lat_below w1 v2) HB3x.out.size))
  clear HB3x
  have HB3x := HB3q
  clear HB3q
  clear HP HX HL HA HB
  have HP := HPq
  have HX := HXq
  have HL := HLq
  have HA := HAq
  have HB := HBq
  clear HPq HXq HLq HAq HBq
  generalize lat w1 v2 = w2 at *
  obtain ⟨il, hil⟩ : ∃ il : Nat, il = (inner n (tab n F) []).length := ⟨_, rfl⟩
  have HSZ := hide (fun z (hz : Live z k s) => Size_p HPL.out hz hq HNF.out)
  rw [← hil] at HSZ
  have HIL := hide hil
  clear hil HAT
  have p0 := lat_cell (HP.out.cell (j := 0) rfl)
  have x1 := lat_cell (cell_heap (j := 1) HX.out rfl)
  have HC0 := hide (fun z => HND.out (lat w2 z) (HP.out.below (lat_below w2 z)))
  have HC1 := hide (fun z => HSZ.out (lat w2 z) (HL.out.below (lat_below w2 z)))
  go_wp2_with fail
  refine wp_region_lat (by kernel_rfl) (by kernel_rfl) ?_
  repeat (first | go_big_quiet_step ((first | (go_at_call 14; with_reducible exact calls_lat (HC0.out _)) | (go_at_call 15; with_reducible exact calls_lat (HC1.out _)))) | quiet_step ((first | (go_at_call 14; with_reducible exact calls_lat (HC0.out _)) | (go_at_call 15; with_reducible exact calls_lat (HC1.out _)))))
  refine wpQuiet_nil ?_
  intro _ hlat
  obtain ⟨v3, rfl⟩ := hlat
  clear p0 x1 HC0 HC1
  have HPq := hide (HP.out.below (lat_below w2 v3))
  have HXq := hide (heapB (lat_below w2 v3) HX.out)
  have HLq := hide (HL.out.below (lat_below w2 v3))
  have HAq := hide (HA.out.below (lat_below w2 v3))
  have HBq := hide (below_wide HB.out (lat_below w2 v3))
  have HB3q := hide (HB3x.out.trans (Below.mono (lat_below w2 v3) HB3x.out.size))
  clear HB3x
  have HB3x := HB3q
  clear HB3q
  clear HP HX HL HA HB
  have HP := HPq
  have HX := HXq
  have HL := HLq
  have HA := HAq
  have HB := HBq
  clear HPq HXq HLq HAq HBq
  generalize lat w2 v3 = w3 at *
  clear HB3x HSZ
  have HB3x := hide (Below.refl w3.heap.size w3)
  have HP3 := HP
  have HX3 := HX
  have HL3 := HL
  have HA3 := HA
  have HB3 := HB
  have HSX := hide (show Below w3.heap.size w3 w3.drew from (Below.refl _ _).drew)
  have p0 := fun z => cellB (pin_in (S := Below w3.heap.size w3) HSX.out z) (HP.out.cell (j := 0) rfl)
  have x1 := fun z => cellB (pin_in (S := Below w3.heap.size w3) HSX.out z) (cell_heap (j := 1) HX.out rfl)
  go_wp2_with fail
  refine wp_region_tree ((Below w3.heap.size w3)) (fun k => ([] : List Nat).contains k) (.take [0, 1, 2, 3, 4, 5, 6] (.step 7 (.step 8 (.take [9, 10, 11, 12, 13] .done)))) (by kernel_rfl) (by kernel_rfl) (by kernel_rfl) (by kernel_rfl) (.take (.cons (.zero) (.cons (.succ (.zero)) (.cons (.succ (.succ (.zero))) (.cons (.succ (.succ (.succ (.zero)))) (.cons (.succ (.succ (.succ (.succ (.zero))))) (.cons (.succ (.succ (.succ (.succ (.succ (.zero)))))) (.cons (.succ (.succ (.succ (.succ (.succ (.succ (.zero))))))) .nil))))))) (.step (.succ (.succ (.succ (.succ (.succ (.succ (.succ (.zero)))))))) rfl (.step (.succ (.succ (.succ (.succ (.succ (.succ (.succ (.succ (.zero))))))))) rfl (.take (.cons (.succ (.succ (.succ (.succ (.succ (.succ (.succ (.succ (.succ (.zero)))))))))) (.cons (.succ (.succ (.succ (.succ (.succ (.succ (.succ (.succ (.succ (.succ (.zero))))))))))) (.cons (.succ (.succ (.succ (.succ (.succ (.succ (.succ (.succ (.succ (.succ (.succ (.zero)))))))))))) (.cons (.succ (.succ (.succ (.succ (.succ (.succ (.succ (.succ (.succ (.succ (.succ (.succ (.zero))))))))))))) (.cons (.succ (.succ (.succ (.succ (.succ (.succ (.succ (.succ (.succ (.succ (.succ (.succ (.succ (.zero)))))))))))))) .nil))))) .done)))) ?hQ ?hS ?_
  case hQ => exact fun _ _ _ _ _ h => h
  case hS => exact HSX.out
  refine wpT_take ?_
  repeat (first | go_big_quiet_step ((fail)) | quiet_step ((fail)))
  refine wpQuiet_nil ?_
  clear p0 x1
  generalize w3.drew = y0 at *
  refine wpT_step rfl ?_
  intro K1 hK1
  go_wp2_with fail
  refine (HND.out y0 (HP.out.below HSX.out)).mono ?_
  rintro e y1 ⟨rfl, hb⟩
  have HGW := hide HSX.out.size
  have HSq := hide (HSX.out.trans (hb.mono HSX.out.size))
  clear hb HSX
  have HSX := HSq
  clear HSq
  refine hK1.out _ _ (fun _ => pin_mem HSX.out) ?_
  clear hK1
  clear HGW
  refine wpT_step rfl ?_
  intro K1 hK1
  go_wp2_with fail
  refine (Support_p HPL.out (HL.out.below HSX.out) hq HNF.out).mono ?_
  rintro e w4 ⟨VS, rfl, hVS, hb⟩
  have HGW := hide HSX.out.size
  have HSq := hide (HSX.out.trans (hb.mono HSX.out.size))
  clear hb HSX
  have HSX := HSq
  clear HSq
  refine hK1.out _ _ (fun _ => pin_mem HSX.out) ?_
  clear hK1
  refine wpT_take ?_
  repeat (first | go_big_quiet_step ((fail)) | quiet_step ((fail)))
  refine wpQuiet_nil ?_
  refine wpT_done ?_
  obtain ⟨SP, hSP⟩ : ∃ SP, SP = supR n (tab n F) := ⟨_, rfl⟩
  have hsl : SP.length ≤ n := by rw [hSP]; exact supR_len n (tab n F) n
  rw [← hSP] at hVS
  have HSP := hide hSP
  clear hSP
  obtain ⟨AV, cV, rfl⟩ := own_slice hVS
  have HVS := hide (show ∃ bv, w3.heap.size ≤ bv ∧ IRow bv w4 (.slice AV SP.length cV) SP from ⟨_, HGW.out, hVS⟩)
  clear hVS HGW
  have HPq := hide (HP.out.below HSX.out)
  have HXq := hide (heapB HSX.out HX.out)
  have HLq := hide (HL.out.below HSX.out)
  have HAq := hide (HA.out.below HSX.out)
  have HBq := hide (below_wide HB.out HSX.out)
  have HB3q := hide (HB3x.out.trans (Below.mono HSX.out HB3x.out.size))
  clear HB3x
  have HB3x := HB3q
  clear HB3q
  clear HP HX HL HA HB
  have HP := HPq
  have HX := HXq
  have HL := HLq
  have HA := HAq
  have HB := HBq
  clear HPq HXq HLq HAq HBq
  clear HSX
  obtain ⟨cn, hcn⟩ : ∃ cn : Nat, cn = countR (tab n F) (rowsR n m1) := ⟨_, rfl⟩
  have HCO := hide (fun z (hz : Live z k s) (ha : ActM B z xf xg xh xi A1 c1 (encL m1) A2 c2 l2 A3 c3 l3) => Count_fit HPL.out hz hq HNF.out A1 c1 m1 HRI.out HMV.out HSU.out (by have := ha.s1; rw [encL_len] at this; exact this))
  rw [← hcn, ← encL_len m1] at HCO
  have HCN := hide hcn
  clear hcn
  go_upto_region 5 with fail
  go_cut [12, 13] from 9999 (fun u v wr => ∃ c, u = .pointer (some ⟨c, 0, none⟩) ∧ v = .int .i64 0 ∧ wr.heap[c]? = some (.cells #[.int .u64 0, .int .u64 cn] 61 (0, 0)) ∧ w4.heap.size ≤ c ∧ Below w4.heap.size w4 wr)
  case first =>
    have HSX := hide (show Below w4.heap.size w4 w4.drew from (Below.refl _ _).drew)
    have p0 := fun z => cellB (pin_in (S := Below w4.heap.size w4) HSX.out z) (HP.out.cell (j := 0) rfl)
    have x1 := fun z => cellB (pin_in (S := Below w4.heap.size w4) HSX.out z) (cell_heap (j := 1) HX.out rfl)
    have x6 := fun z => cellB (pin_in (S := Below w4.heap.size w4) HSX.out z) (cell_heap (j := 6) HX.out rfl)
    go_wp2_with fail
    refine wp_region_tree ((Below w4.heap.size w4)) (fun k => ([] : List Nat).contains k) (.take [0, 1, 2, 3, 4, 5, 6, 8, 9] (.fork 7 (.fork 10 (.take [11, 12, 13] (.step 14 (.step 15 (.take [16] .done)))) 14 (.step 10 (.take [11, 12, 13] (.step 15 (.take [16] .done))))) 14 (.step 7 (.step 10 (.take [11, 12, 13] (.step 15 (.take [16] .done))))))) (by kernel_rfl) (by kernel_rfl) (by kernel_rfl) (by kernel_rfl) (.take (.cons (.zero) (.cons (.succ (.zero)) (.cons (.succ (.succ (.zero))) (.cons (.succ (.succ (.succ (.zero)))) (.cons (.succ (.succ (.succ (.succ (.zero))))) (.cons (.succ (.succ (.succ (.succ (.succ (.zero)))))) (.cons (.succ (.succ (.succ (.succ (.succ (.succ (.zero))))))) (.cons (.succ (.succ (.succ (.succ (.succ (.succ (.succ (.succ (.zero))))))))) (.cons (.succ (.succ (.succ (.succ (.succ (.succ (.succ (.succ (.succ (.zero)))))))))) .nil))))))))) (.fork (.succ (.succ (.succ (.succ (.succ (.succ (.succ (.zero)))))))) rfl (.fork (.succ (.succ (.succ (.succ (.succ (.succ (.succ (.succ (.succ (.succ (.zero))))))))))) rfl (.take (.cons (.succ (.succ (.succ (.succ (.succ (.succ (.succ (.succ (.succ (.succ (.succ (.zero)))))))))))) (.cons (.succ (.succ (.succ (.succ (.succ (.succ (.succ (.succ (.succ (.succ (.succ (.succ (.zero))))))))))))) (.cons (.succ (.succ (.succ (.succ (.succ (.succ (.succ (.succ (.succ (.succ (.succ (.succ (.succ (.zero)))))))))))))) .nil))) (.step (.succ (.succ (.succ (.succ (.succ (.succ (.succ (.succ (.succ (.succ (.succ (.succ (.succ (.succ (.zero))))))))))))))) rfl (.step (.succ (.succ (.succ (.succ (.succ (.succ (.succ (.succ (.succ (.succ (.succ (.succ (.succ (.succ (.succ (.zero)))))))))))))))) rfl (.take (.cons (.succ (.succ (.succ (.succ (.succ (.succ (.succ (.succ (.succ (.succ (.succ (.succ (.succ (.succ (.succ (.succ (.zero))))))))))))))))) .nil) .done)))) (.succ (.succ (.succ (.succ (.succ (.succ (.succ (.succ (.succ (.succ (.succ (.succ (.succ (.succ (.zero))))))))))))))) rfl (.step (.succ (.succ (.succ (.succ (.succ (.succ (.succ (.succ (.succ (.succ (.zero))))))))))) rfl (.take (.cons (.succ (.succ (.succ (.succ (.succ (.succ (.succ (.succ (.succ (.succ (.succ (.zero)))))))))))) (.cons (.succ (.succ (.succ (.succ (.succ (.succ (.succ (.succ (.succ (.succ (.succ (.succ (.zero))))))))))))) (.cons (.succ (.succ (.succ (.succ (.succ (.succ (.succ (.succ (.succ (.succ (.succ (.succ (.succ (.zero)))))))))))))) .nil))) (.step (.succ (.succ (.succ (.succ (.succ (.succ (.succ (.succ (.succ (.succ (.succ (.succ (.succ (.succ (.succ (.zero)))))))))))))))) rfl (.take (.cons (.succ (.succ (.succ (.succ (.succ (.succ (.succ (.succ (.succ (.succ (.succ (.succ (.succ (.succ (.succ (.succ (.zero))))))))))))))))) .nil) .done))))) (.succ (.succ (.succ (.succ (.succ (.succ (.succ (.succ (.succ (.succ (.succ (.succ (.succ (.succ (.zero))))))))))))))) rfl (.step (.succ (.succ (.succ (.succ (.succ (.succ (.succ (.zero)))))))) rfl (.step (.succ (.succ (.succ (.succ (.succ (.succ (.succ (.succ (.succ (.succ (.zero))))))))))) rfl (.take (.cons (.succ (.succ (.succ (.succ (.succ (.succ (.succ (.succ (.succ (.succ (.succ (.zero)))))))))))) (.cons (.succ (.succ (.succ (.succ (.succ (.succ (.succ (.succ (.succ (.succ (.succ (.succ (.zero))))))))))))) (.cons (.succ (.succ (.succ (.succ (.succ (.succ (.succ (.succ (.succ (.succ (.succ (.succ (.succ (.zero)))))))))))))) .nil))) (.step (.succ (.succ (.succ (.succ (.succ (.succ (.succ (.succ (.succ (.succ (.succ (.succ (.succ (.succ (.succ (.zero)))))))))))))))) rfl (.take (.cons (.succ (.succ (.succ (.succ (.succ (.succ (.succ (.succ (.succ (.succ (.succ (.succ (.succ (.succ (.succ (.succ (.zero))))))))))))))))) .nil) .done))))))) ?hQ ?hS ?_
    case hQ => exact fun _ _ _ _ _ h => h
    case hS => exact HSX.out
    refine wpT_take ?_
    repeat (first | go_big_quiet_step ((fail)) | quiet_step ((fail)))
    refine wpQuiet_nil ?_
    clear p0 x1 x6
    generalize w4.drew = y0 at *
    refine wpT_fork ?_ ?_
    · refine wpT_step rfl ?_
      intro K1 hK1
      go_wp2_with fail
      refine (HND.out y0 (HP.out.below HSX.out)).mono ?_
      rintro e y1 ⟨rfl, hb⟩
      have HSq := hide (HSX.out.trans (hb.mono HSX.out.size))
      clear hb HSX
      have HSX := HSq
      clear HSq
      refine hK1.out _ _ (fun _ => pin_mem HSX.out) ?_
      clear hK1
      refine wpT_fork ?_ ?_
      · refine wpT_step rfl ?_
        intro K1 hK1
        go_wp2_with fail
        refine (HCO.out y1 (HL.out.below HSX.out) (HA.out.below HSX.out)).mono ?_
        rintro e y2 ⟨rfl, hb⟩
        have HSq := hide (HSX.out.trans (hb.mono HSX.out.size))
        clear hb HSX
        have HSX := HSq
        clear HSq
        refine hK1.out _ _ (fun _ => pin_mem HSX.out) ?_
        clear hK1
        refine wpT_take ?_
        repeat (first | go_big_quiet_step ((fail)) | quiet_step ((fail)))
        refine wpQuiet_nil ?_
        refine wpT_step rfl ?_
        intro K1 hK1
        go_wp2_with fail
        have HSq := hide (HSX.out.alloc HSX.out.size (Obj.cells #[.int .u64 0, .int .u64 0] 61))
        have HC12 := hide (heap_new y2 (Obj.cells #[.int .u64 0, .int .u64 0] 61))
        have HGE := hide HSX.out.size
        clear HSX
        have HSX := HSq
        clear HSq
        refine hK1.out _ _ (fun _ => pin_mem HSX.out) ?_
        clear hK1
        generalize y2.alloc (Obj.cells #[.int .u64 0, .int .u64 0] 61) = y3 at *
        generalize y2.heap.size = c12 at *
        have s0 := cell_heap (j := 0) HC12.out rfl
        have f0 := frozen_heap (j := 0) HC12.out
        have s1 := fun (u : Value) => cell_heap (j := 1) (heap_set (j := 0) (u := u) HC12.out) rfl
        have f1 := fun (u : Value) => frozen_heap (j := 1) (heap_set (j := 0) (u := u) HC12.out)
        refine wpT_step rfl ?_
        intro K1 hK1
        go_wp2_with fail
        have HSq := hide ((HSX.out.setCell (p := ⟨c12, 0, none⟩) HGE.out (.int .u64 0)).setCell (p := ⟨c12, 1, none⟩) HGE.out (.int .u64 cn))
        have HCq := hide (show ((y3.setCell ⟨c12, 0, none⟩ (.int .u64 0)).setCell ⟨c12, 1, none⟩ (.int .u64 cn)).heap[c12]? = some (.cells #[.int .u64 0, .int .u64 cn] 61 (0, 0)) from heap_set (j := 1) (u := .int .u64 cn) (heap_set (j := 0) (u := .int .u64 0) HC12.out))
        clear s0 f0 s1 f1
        refine hK1.out _ _ (fun _ => pin_mem HSq.out) ?_
        clear hK1
        refine wpT_take ?_
        repeat (first | go_big_quiet_step ((fail)) | quiet_step ((fail)))
        refine wpQuiet_nil ?_
        refine wpT_done ?_
        go_wp2_with fail
        go_meet
        case rel => exact ⟨c12, rfl, rfl, HCq.out, HGE.out, HSq.out⟩
      · refine wpT_step rfl ?_
        intro K1 hK1
        go_wp2_with fail
        have HSq := hide (HSX.out.alloc HSX.out.size (Obj.cells #[.int .u64 0, .int .u64 0] 61))
        have HC12 := hide (heap_new y1 (Obj.cells #[.int .u64 0, .int .u64 0] 61))
        have HGE := hide HSX.out.size
        clear HSX
        have HSX := HSq
        clear HSq
        refine hK1.out _ _ (fun _ => pin_mem HSX.out) ?_
        clear hK1
        generalize y1.alloc (Obj.cells #[.int .u64 0, .int .u64 0] 61) = y2 at *
        generalize y1.heap.size = c12 at *
        refine wpT_step rfl ?_
        intro K1 hK1
        go_wp2_with fail
        refine (HCO.out y2 (HL.out.below HSX.out) (HA.out.below HSX.out)).mono ?_
        rintro e y3 ⟨rfl, hb⟩
        have HSq := hide (HSX.out.trans (hb.mono HSX.out.size))
        have HCq := hide (heapB hb HC12.out)
        clear HC12
        have HC12 := HCq
        clear HCq
        clear hb HSX
        have HSX := HSq
        clear HSq
        refine hK1.out _ _ (fun _ => pin_mem HSX.out) ?_
        clear hK1
        refine wpT_take ?_
        repeat (first | go_big_quiet_step ((fail)) | quiet_step ((fail)))
        refine wpQuiet_nil ?_
        have s0 := cell_heap (j := 0) HC12.out rfl
        have f0 := frozen_heap (j := 0) HC12.out
        have s1 := fun (u : Value) => cell_heap (j := 1) (heap_set (j := 0) (u := u) HC12.out) rfl
        have f1 := fun (u : Value) => frozen_heap (j := 1) (heap_set (j := 0) (u := u) HC12.out)
        refine wpT_step rfl ?_
        intro K1 hK1
        go_wp2_with fail
        have HSq := hide ((HSX.out.setCell (p := ⟨c12, 0, none⟩) HGE.out (.int .u64 0)).setCell (p := ⟨c12, 1, none⟩) HGE.out (.int .u64 cn))
        have HCq := hide (show ((y3.setCell ⟨c12, 0, none⟩ (.int .u64 0)).setCell ⟨c12, 1, none⟩ (.int .u64 cn)).heap[c12]? = some (.cells #[.int .u64 0, .int .u64 cn] 61 (0, 0)) from heap_set (j := 1) (u := .int .u64 cn) (heap_set (j := 0) (u := .int .u64 0) HC12.out))
        clear s0 f0 s1 f1
        refine hK1.out _ _ (fun _ => pin_mem HSq.out) ?_
        clear hK1
        refine wpT_take ?_
        repeat (first | go_big_quiet_step ((fail)) | quiet_step ((fail)))
        refine wpQuiet_nil ?_
        refine wpT_done ?_
        go_wp2_with fail
        go_meet
        case rel => exact ⟨c12, rfl, rfl, HCq.out, HGE.out, HSq.out⟩
    · refine wpT_step rfl ?_
      intro K1 hK1
      go_wp2_with fail
      have HSq := hide (HSX.out.alloc HSX.out.size (Obj.cells #[.int .u64 0, .int .u64 0] 61))
      have HC12 := hide (heap_new y0 (Obj.cells #[.int .u64 0, .int .u64 0] 61))
      have HGE := hide HSX.out.size
      clear HSX
      have HSX := HSq
      clear HSq
      refine hK1.out _ _ (fun _ => pin_mem HSX.out) ?_
      clear hK1
      generalize y0.alloc (Obj.cells #[.int .u64 0, .int .u64 0] 61) = y1 at *
      generalize y0.heap.size = c12 at *
      refine wpT_step rfl ?_
      intro K1 hK1
      go_wp2_with fail
      refine (HND.out y1 (HP.out.below HSX.out)).mono ?_
      rintro e y2 ⟨rfl, hb⟩
      have HSq := hide (HSX.out.trans (hb.mono HSX.out.size))
      have HCq := hide (heapB hb HC12.out)
      clear HC12
      have HC12 := HCq
      clear HCq
      clear hb HSX
      have HSX := HSq
      clear HSq
      refine hK1.out _ _ (fun _ => pin_mem HSX.out) ?_
      clear hK1
      refine wpT_step rfl ?_
      intro K1 hK1
      go_wp2_with fail
      refine (HCO.out y2 (HL.out.below HSX.out) (HA.out.below HSX.out)).mono ?_
      rintro e y3 ⟨rfl, hb⟩
      have HSq := hide (HSX.out.trans (hb.mono HSX.out.size))
      have HCq := hide (heapB hb HC12.out)
      clear HC12
      have HC12 := HCq
      clear HCq
      clear hb HSX
      have HSX := HSq
      clear HSq
      refine hK1.out _ _ (fun _ => pin_mem HSX.out) ?_
      clear hK1
      refine wpT_take ?_
      repeat (first | go_big_quiet_step ((fail)) | quiet_step ((fail)))
      refine wpQuiet_nil ?_
      have s0 := cell_heap (j := 0) HC12.out rfl
      have f0 := frozen_heap (j := 0) HC12.out
      have s1 := fun (u : Value) => cell_heap (j := 1) (heap_set (j := 0) (u := u) HC12.out) rfl
      have f1 := fun (u : Value) => frozen_heap (j := 1) (heap_set (j := 0) (u := u) HC12.out)
      refine wpT_step rfl ?_
      intro K1 hK1
      go_wp2_with fail
      have HSq := hide ((HSX.out.setCell (p := ⟨c12, 0, none⟩) HGE.out (.int .u64 0)).setCell (p := ⟨c12, 1, none⟩) HGE.out (.int .u64 cn))
      have HCq := hide (show ((y3.setCell ⟨c12, 0, none⟩ (.int .u64 0)).setCell ⟨c12, 1, none⟩ (.int .u64 cn)).heap[c12]? = some (.cells #[.int .u64 0, .int .u64 cn] 61 (0, 0)) from heap_set (j := 1) (u := .int .u64 cn) (heap_set (j := 0) (u := .int .u64 0) HC12.out))
      clear s0 f0 s1 f1
      refine hK1.out _ _ (fun _ => pin_mem HSq.out) ?_
      clear hK1
      refine wpT_take ?_
      repeat (first | go_big_quiet_step ((fail)) | quiet_step ((fail)))
      refine wpQuiet_nil ?_
      refine wpT_done ?_
      go_wp2_with fail
      go_meet
      case rel => exact ⟨c12, rfl, rfl, HCq.out, HGE.out, HSq.out⟩
  case rest =>
    obtain ⟨c12, rfl, rfl, hc12, hge, hbr⟩ := hcut
    generalize wc = w5 at *
    have HC12 := hide hc12
    have HGE := hide (show w3.heap.size ≤ c12 from Nat.le_trans HB3x.out.size hge)
    have HPq := hide (HP.out.below hbr)
    have HXq := hide (heapB hbr HX.out)
    have HLq := hide (HL.out.below hbr)
    have HAq := hide (HA.out.below hbr)
    have HBq := hide (below_wide HB.out hbr)
    have HB3q := hide (HB3x.out.trans (Below.mono hbr HB3x.out.size))
    clear HB3x
    have HB3x := HB3q
    clear HB3q
    have HVq := hide (show ∃ bv, w3.heap.size ≤ bv ∧ IRow bv _ (.slice AV SP.length cV) SP from ⟨_, HVS.out.choose_spec.1, own_below HVS.out.choose_spec.2 hbr⟩)
    clear HVS
    have HVS := HVq
    clear HVq
    clear HP HX HL HA HB
    have HP := HPq
    have HX := HXq
    have HL := HLq
    have HA := HAq
    have HB := HBq
    clear HPq HXq HLq HAq HBq
    clear hc12 hbr hge HCO
    have HLS := hide (fun z (hz : Live z k s) (ha : ActM B z xf xg xh xi A1 c1 (encL m1) A2 c2 l2 A3 c3 l3) => (Least_fit HPL.out hz hq HNF.out A1 c1 m1 HFT.out HRI.out HMV.out HSU.out (by have := ha.s1; rw [encL_len] at this; exact this)).mono (fun e w' (hh : LeastP (leastR n (tab n F) m1) z e w') => (show e = .returned (.tuple #[.slice none 0 0, .int .i64 5]) ∧ Below z.heap.size z w' from by rw [HLE.out] at hh; exact ⟨hh.2, hh.1⟩)))
    rw [← encL_len m1] at HLS
    have p0 := lat_cell (HP.out.cell (j := 0) rfl)
    have x1 := lat_cell (cell_heap (j := 1) HX.out rfl)
    have x6 := lat_cell (cell_heap (j := 6) HX.out rfl)
    have HC0 := hide (fun z => HND.out (lat w5 z) (HP.out.below (lat_below w5 z)))
    have HC1 := hide (fun z => HLS.out (lat w5 z) (HL.out.below (lat_below w5 z)) (HA.out.below (lat_below w5 z)))
    go_wp2_with fail
    refine wp_region_lat (by kernel_rfl) (by kernel_rfl) ?_
    repeat (first | go_big_quiet_step ((first | (go_at_call 14; with_reducible exact calls_lat (HC0.out _)) | (go_at_call 18; with_reducible exact calls_lat (HC1.out _)))) | quiet_step ((first | (go_at_call 14; with_reducible exact calls_lat (HC0.out _)) | (go_at_call 18; with_reducible exact calls_lat (HC1.out _)))))
    refine wpQuiet_nil ?_
    intro _ hlat
    obtain ⟨v6, rfl⟩ := hlat
    clear p0 x1 x6 HC0 HC1
    have HPq := hide (HP.out.below (lat_below w5 v6))
    have HXq := hide (heapB (lat_below w5 v6) HX.out)
    have HLq := hide (HL.out.below (lat_below w5 v6))
    have HAq := hide (HA.out.below (lat_below w5 v6))
    have HBq := hide (below_wide HB.out (lat_below w5 v6))
    have HB3q := hide (HB3x.out.trans (Below.mono (lat_below w5 v6) HB3x.out.size))
    clear HB3x
    have HB3x := HB3q
    clear HB3q
    have HVq := hide (show ∃ bv, w3.heap.size ≤ bv ∧ IRow bv _ (.slice AV SP.length cV) SP from ⟨_, HVS.out.choose_spec.1, own_below HVS.out.choose_spec.2 (lat_below w5 v6)⟩)
    clear HVS
    have HVS := HVq
    clear HVq
    have HCq := hide (heapB (lat_below w5 v6) HC12.out)
    clear HC12
    have HC12 := HCq
    clear HCq
    clear HP HX HL HA HB
    have HP := HPq
    have HX := HXq
    have HL := HLq
    have HA := HAq
    have HB := HBq
    clear HPq HXq HLq HAq HBq
    generalize lat w5 v6 = w6 at *
    clear HLS
    obtain ⟨ad, cT, gt, hVt, tcf, hrf⟩ := HP.out.row HM.out HTF.out
    subst hVt
    have HRF := hide hrf
    have p4 := HP.out.cell (j := 4) rfl
    go_upto_region 10 with fail
    clear p4 tcf hrf
    go_cut [185] from 9999 (fun u wr => u = .bool false ∧ Below w6.heap.size w6 wr)
    case first =>
      by_cases hv : l3.length = n
      · skip
        have hb0' := HbA.out
        have he0 := HeA.out
        rw [if_pos hv] at hb0' he0
        subst he0
        have d1 : ((l3.length : Int) != (n : Int)) = false := by rw [hv]; simp
        have d2 : ((l3.length : Int) == (n : Int)) = true := by rw [hv]; simp
        have HV := hide hv
        have HBQ := hide hb0'
        have HRA := hide (fun z => (At_tab n (tab n F) l3 (some ⟨gt, 0, none⟩) A3 (tab n F).length c3 (lat w6 z) n6 (HRF.out.below (lat_below w6 z)).src HFP.out (HA.out.below (lat_below w6 z)).s3 HV.out).mono (fun e w' (hh : e = .returned (.bool (atR n (tab n F) l3)) ∧ w' = lat w6 z) => (show e = .returned (.bool bA) ∧ lat w6 z = w' from ⟨by rw [hh.1, HBQ.out], hh.2.symm⟩)))
        rw [HFL.out] at HRA
        have hbb : (bA != bA) = false := by cases bA <;> rfl
        clear hv hb0'
        have p1 := lat_cell (HP.out.cell (j := 1) rfl)
        have x8 := lat_cell (cell_heap (j := 8) HX.out rfl)
        go_wp2_with fail
        refine wp_region_lat (by kernel_rfl) (lex_of (by kernel_rfl) lex10) ?_
        repeat (first | go_big_quiet_step ((go_at_call 19; with_reducible exact calls_lat_same (HRA.out _))) | quiet_step ((go_at_call 19; with_reducible exact calls_lat_same (HRA.out _))))
        refine wpQuiet_nil ?_
        intro _ hlat
        obtain ⟨v10, rfl⟩ := hlat
        go_wp2_with fail
        go_meet
        case rel => exact ⟨rfl, lat_below _ _⟩
      · skip
        have hb0' := HbA.out
        have he0 := HeA.out
        rw [if_neg hv] at hb0' he0
        subst he0 hb0'
        have d1 : ((l3.length : Int) != (n : Int)) = true := bne_iff_ne.2 (by omega)
        have d2 : ((l3.length : Int) == (n : Int)) = false := beq_if (by omega)
        clear hv
        have p1 := lat_cell (HP.out.cell (j := 1) rfl)
        have x8 := lat_cell (cell_heap (j := 8) HX.out rfl)
        go_wp2_with fail
        refine wp_region_lat (by kernel_rfl) (lex_of (by kernel_rfl) lex10) ?_
        repeat (first | go_big_quiet_step ((fail)) | quiet_step ((fail)))
        refine wpQuiet_nil ?_
        intro _ hlat
        obtain ⟨v10, rfl⟩ := hlat
        go_wp2_with fail
        go_meet
        case rel => exact ⟨rfl, lat_below _ _⟩
    case rest =>
      obtain ⟨rfl, hbr⟩ := hcut
      generalize wc = w7 at *
      have HPq := hide (HP.out.below hbr)
      have HXq := hide (heapB hbr HX.out)
      have HLq := hide (HL.out.below hbr)
      have HAq := hide (HA.out.below hbr)
      have HBq := hide (below_wide HB.out hbr)
      have HB3q := hide (HB3x.out.trans (Below.mono hbr HB3x.out.size))
      clear HB3x
      have HB3x := HB3q
      clear HB3q
      have HVq := hide (show ∃ bv, w3.heap.size ≤ bv ∧ IRow bv _ (.slice AV SP.length cV) SP from ⟨_, HVS.out.choose_spec.1, own_below HVS.out.choose_spec.2 hbr⟩)
      clear HVS
      have HVS := HVq
      clear HVq
      have HCq := hide (heapB hbr HC12.out)
      clear HC12
      have HC12 := HCq
      clear HCq
      have HRq := hide (HRF.out.below hbr)
      clear HRF
      have HRF := HRq
      clear HRq
      clear HP HX HL HA HB
      have HP := HPq
      have HX := HXq
      have HL := HLq
      have HA := HAq
      have HB := HBq
      clear HPq HXq HLq HAq HBq
      clear hbr HbA HeA
      have p1 := HP.out.cell (j := 1) rfl
      have hin := Inner_any n (tab n F) gt 0 none 0 [] w7 n6 HRF.out HFP.out ⟨rfl, .inl ⟨rfl, rfl⟩⟩ (by simp) (Nat.zero_le _)
      rw [HFL.out] at hin
      have HIN := hide hin
      have d0 : ((il : Int) != (il : Int)) = false := by simp
      clear hin
      go_wp2_with fail
      refine HIN.out.mono ?_
      rintro e w8 ⟨VI, rfl, hd⟩
      have hb : Below w7.heap.size w7 w8 := grown_none rfl hd.fr
      have hle := hd.own
      obtain ⟨AI, cI, rfl⟩ := own_slice hle
      rw [← HIL.out]
      clear hle hd HIN p1
      have HPq := hide (HP.out.below hb)
      have HXq := hide (heapB hb HX.out)
      have HLq := hide (HL.out.below hb)
      have HAq := hide (HA.out.below hb)
      have HBq := hide (below_wide HB.out hb)
      have HB3q := hide (HB3x.out.trans (Below.mono hb HB3x.out.size))
      clear HB3x
      have HB3x := HB3q
      clear HB3q
      have HVq := hide (show ∃ bv, w3.heap.size ≤ bv ∧ IRow bv _ (.slice AV SP.length cV) SP from ⟨_, HVS.out.choose_spec.1, own_below HVS.out.choose_spec.2 hb⟩)
      clear HVS
      have HVS := HVq
      clear HVq
      have HCq := hide (heapB hb HC12.out)
      clear HC12
      have HC12 := HCq
      clear HCq
      have HRq := hide (HRF.out.below hb)
      clear HRF
      have HRF := HRq
      clear HRq
      clear HP HX HL HA HB
      have HP := HPq
      have HX := HXq
      have HL := HLq
      have HA := HAq
      have HB := HBq
      clear HPq HXq HLq HAq HBq
      clear hb
      have p1 := HP.out.cell (j := 1) rfl
      have hst := Support_tab n (tab n F) (some ⟨gt, 0, none⟩) (tab n F).length w8 n6 HRF.out.src HFP.out
      rw [HFL.out] at hst
      have HST := hide hst
      clear hst
      go_wp2_with fail
      refine HST.out.mono ?_
      rintro e w9 ⟨V9, rfl, hV9, hb⟩
      rw [← HSP.out] at hV9
      obtain ⟨A9, c9, rfl⟩ := own_slice hV9
      have H9 := hide hV9
      clear hV9 HST p1
      have HPq := hide (HP.out.below hb)
      have HXq := hide (heapB hb HX.out)
      have HLq := hide (HL.out.below hb)
      have HAq := hide (HA.out.below hb)
      have HBq := hide (below_wide HB.out hb)
      have HB3q := hide (HB3x.out.trans (Below.mono hb HB3x.out.size))
      clear HB3x
      have HB3x := HB3q
      clear HB3q
      have HVq := hide (show ∃ bv, w3.heap.size ≤ bv ∧ IRow bv _ (.slice AV SP.length cV) SP from ⟨_, HVS.out.choose_spec.1, own_below HVS.out.choose_spec.2 hb⟩)
      clear HVS
      have HVS := HVq
      clear HVq
      have HCq := hide (heapB hb HC12.out)
      clear HC12
      have HC12 := HCq
      clear HCq
      have HRq := hide (HRF.out.below hb)
      clear HRF
      have HRF := HRq
      clear HRq
      clear HP HX HL HA HB
      have HP := HPq
      have HX := HXq
      have HL := HLq
      have HA := HAq
      have HB := HBq
      clear HPq HXq HLq HAq HBq
      clear hb
      have hsi := sameInts_any AV A9 cV c9 (encL SP) (encL SP) w9 (by rw [encL_len]; exact src_of_own HVS.out.choose_spec.2) (by rw [encL_len]; exact src_of_own H9.out) (by rw [encL_len]; unfold maxLen; omega) (by rw [encL_len]; unfold maxLen; omega)
      rw [encL_len, decide_eq_true rfl] at hsi
      have HSI := hide hsi
      clear hsi
      go_upto_block 0 with fail
      refine HSI.out.mono ?_
      rintro e w10 ⟨rfl, hb⟩
      clear HSI H9
      have HPq := hide (HP.out.below hb)
      have HXq := hide (heapB hb HX.out)
      have HLq := hide (HL.out.below hb)
      have HAq := hide (HA.out.below hb)
      have HBq := hide (below_wide HB.out hb)
      have HB3q := hide (HB3x.out.trans (Below.mono hb HB3x.out.size))
      clear HB3x
      have HB3x := HB3q
      clear HB3q
      have HVq := hide (show ∃ bv, w3.heap.size ≤ bv ∧ IRow bv _ (.slice AV SP.length cV) SP from ⟨_, HVS.out.choose_spec.1, own_below HVS.out.choose_spec.2 hb⟩)
      clear HVS
      have HVS := HVq
      clear HVq
      have HCq := hide (heapB hb HC12.out)
      clear HC12
      have HC12 := HCq
      clear HCq
      have HRq := hide (HRF.out.below hb)
      clear HRF
      have HRF := HRq
      clear HRq
      clear HP HX HL HA HB
      have HP := HPq
      have HX := HXq
      have HL := HLq
      have HA := HAq
      have HB := HBq
      clear HPq HXq HLq HAq HBq
      clear hb
      have HW10 := hide HB3x.out.size
      go_upto_block 0 with fail
      go_cut [17] from 9999 (fun _ wr => Below w3.heap.size w10 wr ∧ wr.heap[c12]? = some (.cells #[.int .u64 0, .int .u64 cn] 61 (0, 0)) ∧ Bools w10 wr)
      case first =>
        rcases HVS.out.choose_spec.2.2 with ⟨hV, hz⟩ | ⟨gv, cap, cur, hV, hcap, hcur, hnc, hcm, hcs, hct⟩
        · injection hV with e1 e2 e3
          subst e1 e3
          have HL0 := hide e2
          clear hz e2
          go_wp2_with fail
          go_loopw [17] (fun j wr => j = .int .i64 0 ∧ wr = w10) (fun _ _ => 0)
          case atStart => exact ⟨rfl, rfl⟩
          case round =>
            obtain ⟨rfl, rfl⟩ := hrel
            have d1 : decide ((0 : Int) < (SP.length : Int)) = false := decide_eq_false (by have := HL0.out; omega)
            have d2 : decide (0 < SP.length) = false := decide_eq_false (by have := HL0.out; omega)
            go_wp2_with fail
            go_meet
            case rel => exact ⟨(Below.refl _ _).mono HW10.out, HC12.out, Bools.refl _⟩
        · cases hV
          have HCU := hide (show ∃ cur : Array Value, w10.heap[gv]? = some (.cells cur 3 (0, 0)) ∧ SP.length ≤ cur.size from ⟨cur, hcur, by omega⟩)
          have HGV := hide (show w3.heap.size ≤ gv from Nat.le_trans HVS.out.choose_spec.1 hcap)
          clear hcap hcur hnc hcm hcs hct
          go_wp2_with fail
          go_loopw [17] (fun j wr => ∃ i : Nat, j = .int .i64 i ∧ i ≤ SP.length ∧ (∃ cur : Array Value, wr.heap[gv]? = some (.cells cur 3 (0, 0)) ∧ SP.length ≤ cur.size) ∧ Below w3.heap.size w10 wr ∧ wr.heap[c12]? = some (.cells #[.int .u64 0, .int .u64 cn] 61 (0, 0)) ∧ Bools w10 wr) (fun j _ => SP.length - (intOf j).toNat)
          case atStart => exact ⟨0, rfl, Nat.zero_le _, HCU.out, (Below.refl _ _).mono HW10.out, HC12.out, Bools.refl _⟩
          case round =>
            obtain ⟨i, rfl, hi, ⟨cur, hcu, hsz⟩, hrl⟩ := hrel
            have HR := hide hrl
            clear hrl
            rcases Nat.lt_or_ge i SP.length with hlt | hge
            · have d1 : decide (i < SP.length) = true := decide_eq_true hlt
              have d1' : decide ((i : Int) < (SP.length : Int)) = true := decide_eq_true (by omega)
              have d2 : ((i : Int) < (SP.length : Int)) := by omega
              obtain ⟨uu, huu⟩ : ∃ u, cur[i]? = some u := ⟨_, Array.getElem?_eq_getElem (by omega)⟩
              have hcl := cell_heap (j := i) hcu huu
              have hfr := frozen_heap (j := i) hcu
              have HLT := hide hlt
              have HN := hide (show (∃ cur : Array Value, (wr.setCell ⟨gv, i, none⟩ (.int .i64 (-1))).heap[gv]? = some (.cells cur 3 (0, 0)) ∧ SP.length ≤ cur.size) from ⟨_, heap_set (j := i) (u := .int .i64 (-1)) hcu, by simpa using hsz⟩)
              have HN2 := hide (show Below w3.heap.size w10 (wr.setCell ⟨gv, i, none⟩ (.int .i64 (-1))) ∧ (wr.setCell ⟨gv, i, none⟩ (.int .i64 (-1))).heap[c12]? = some (.cells #[.int .u64 0, .int .u64 cn] 61 (0, 0)) ∧ Bools w10 (wr.setCell ⟨gv, i, none⟩ (.int .i64 (-1))) from ⟨HR.out.1.setCell (p := ⟨gv, i, none⟩) HGV.out _, heap_far HR.out.2.1 (heap_ne HR.out.2.1 hcu (by decide)), HR.out.2.2.trans (Bools.grown grown_set (fun b hb => by cases hb; exact ⟨cur, _, hcu, by decide⟩))⟩)
              clear hlt huu
              go_wp2_with fail
              go_roundw
              case rel => exact ⟨i + 1, by go_num, HLT.out, HN.out, HN2.out⟩
              case measure => have := HLT.out; simp [intOf]; omega
            · obtain rfl : i = SP.length := by omega
              have d1 : decide (SP.length < SP.length) = false := decide_eq_false (by omega)
              have d1' : decide ((SP.length : Int) < (SP.length : Int)) = false := decide_eq_false (by omega)
              clear hcu hsz
              go_wp2_with fail
              go_meet
              case rel => exact HR.out
      case rest =>
        obtain ⟨hb, hc12, hbo⟩ := hcut
        generalize wc = w11 at *
        have HRq := hide (hbo gt _ HRF.out)
        clear HRF
        have HRF := HRq
        clear HRq
        clear HC12
        have HC12 := hide hc12
        have hb3 := HB3x.out.trans hb
        clear HP HX HL HA HB HVS hc12 hbo hb HB3x
        have HP := hide (HP3.out.below hb3)
        have HX := hide (heapB hb3 HX3.out)
        have HL := hide (HL3.out.below hb3)
        have HA := hide (HA3.out.below hb3)
        have HB := hide (below_wide HB3.out hb3)
        clear HP3 HX3 HL3 HA3 HB3 hb3
        have HB3x := hide (Below.refl w11.heap.size w11)
        have HFI := hide (fun z (hz : BRow z gt (tab n F)) (ha : ActM B z xf xg xh xi A1 c1 (encL m1) A2 c2 l2 A3 c3 l3) => (Fits_any n (tab n F) (encL m1) (some ⟨gt, 0, none⟩) A1 (tab n F).length c1 z n6 hz.src HFP.out ha.s1 (len_max ha.n1)).mono (fun e w' (hh : FitsOut n (tab n F) (encL m1) z e w') => (show e = .returned (.bool true) ∧ Below z.heap.size z w' from by
          obtain ⟨b, he, hb, hbl⟩ := hh
          refine ⟨?_, hbl⟩
          cases b with
          | true => exact he
          | false => exact absurd (hb.2 HFT.out) Bool.false_ne_true)))
        rw [HFL.out] at HFI
        have p1 := lat_cell (HP.out.cell (j := 1) rfl)
        have x6 := lat_cell (cell_heap (j := 6) HX.out rfl)
        have HC0 := hide (fun z => HFI.out (lat w11 z) (HRF.out.below (lat_below w11 z)) (HA.out.below (lat_below w11 z)))
        go_wp2_with fail
        refine wp_region_lat (by kernel_rfl) (by kernel_rfl) ?_
        repeat (first | go_big_quiet_step (((go_at_call 22; with_reducible exact calls_lat (HC0.out _)))) | quiet_step (((go_at_call 22; with_reducible exact calls_lat (HC0.out _)))))
        refine wpQuiet_nil ?_
        intro _ hlat
        obtain ⟨v12, rfl⟩ := hlat
        clear p1 x6 HC0
        have HPq := hide (HP.out.below (lat_below w11 v12))
        have HXq := hide (heapB (lat_below w11 v12) HX.out)
        have HLq := hide (HL.out.below (lat_below w11 v12))
        have HAq := hide (HA.out.below (lat_below w11 v12))
        have HBq := hide (below_wide HB.out (lat_below w11 v12))
        have HB3q := hide (HB3x.out.trans (Below.mono (lat_below w11 v12) HB3x.out.size))
        clear HB3x
        have HB3x := HB3q
        clear HB3q
        have HCq := hide (heapB (lat_below w11 v12) HC12.out)
        clear HC12
        have HC12 := HCq
        clear HCq
        have HRq := hide (HRF.out.below (lat_below w11 v12))
        clear HRF
        have HRF := HRq
        clear HRq
        clear HP HX HL HA HB
        have HP := HPq
        have HX := HXq
        have HL := HLq
        have HA := HAq
        have HB := HBq
        clear HPq HXq HLq HAq HBq
        generalize lat w11 v12 = w12 at *
        clear HFI
        have HLT := hide (fun z (hz : BRow z gt (tab n F)) (ha : ActM B z xf xg xh xi A1 c1 (encL m1) A2 c2 l2 A3 c3 l3) => Least_tab n (tab n F) m1 (some ⟨gt, 0, none⟩) A1 (tab n F).length c1 z n6 hz.src HFP.out HMV.out HSM.out (by have := ha.s1; rw [encL_len] at this; exact this))
        rw [HLE.out, HFL.out, ← encL_len m1] at HLT
        have HSX := hide (show Below w12.heap.size w12 w12.drew from (Below.refl _ _).drew)
        have p1 := fun z => cellB (pin_in (S := Below w12.heap.size w12) HSX.out z) (HP.out.cell (j := 1) rfl)
        have x6 := fun z => cellB (pin_in (S := Below w12.heap.size w12) HSX.out z) (cell_heap (j := 6) HX.out rfl)
        go_wp2_with fail
        refine wp_region_tree ((Below w12.heap.size w12)) (fun k => ([] : List Nat).contains k) (.take [0, 1, 2, 3, 4, 5, 6] (.step 7 (.take [8, 9, 10, 11, 12] .done))) (by kernel_rfl) (by kernel_rfl) (by kernel_rfl) (by kernel_rfl) (.take (.cons (.zero) (.cons (.succ (.zero)) (.cons (.succ (.succ (.zero))) (.cons (.succ (.succ (.succ (.zero)))) (.cons (.succ (.succ (.succ (.succ (.zero))))) (.cons (.succ (.succ (.succ (.succ (.succ (.zero)))))) (.cons (.succ (.succ (.succ (.succ (.succ (.succ (.zero))))))) .nil))))))) (.step (.succ (.succ (.succ (.succ (.succ (.succ (.succ (.zero)))))))) rfl (.take (.cons (.succ (.succ (.succ (.succ (.succ (.succ (.succ (.succ (.zero))))))))) (.cons (.succ (.succ (.succ (.succ (.succ (.succ (.succ (.succ (.succ (.zero)))))))))) (.cons (.succ (.succ (.succ (.succ (.succ (.succ (.succ (.succ (.succ (.succ (.zero))))))))))) (.cons (.succ (.succ (.succ (.succ (.succ (.succ (.succ (.succ (.succ (.succ (.succ (.zero)))))))))))) (.cons (.succ (.succ (.succ (.succ (.succ (.succ (.succ (.succ (.succ (.succ (.succ (.succ (.zero))))))))))))) .nil))))) .done))) ?hQ ?hS ?_
        case hQ => exact fun _ _ _ _ _ h => h
        case hS => exact HSX.out
        refine wpT_take ?_
        repeat (first | go_big_quiet_step ((fail)) | quiet_step ((fail)))
        refine wpQuiet_nil ?_
        clear p1 x6
        generalize w12.drew = y0 at *
        refine wpT_step rfl ?_
        intro K1 hK1
        go_wp2_with fail
        refine (HLT.out y0 (HRF.out.below HSX.out) (HA.out.below HSX.out)).mono ?_
        rintro e w13 ⟨hb, rfl⟩
        have HGW := hide HSX.out.size
        have HSq := hide (HSX.out.trans (hb.mono HSX.out.size))
        clear hb HSX
        have HSX := HSq
        clear HSq
        refine hK1.out _ _ (fun _ => pin_mem HSX.out) ?_
        clear hK1
        refine wpT_take ?_
        repeat (first | go_big_quiet_step ((fail)) | quiet_step ((fail)))
        refine wpQuiet_nil ?_
        refine wpT_done ?_
        clear HGW HLT
        have HPq := hide (HP.out.below HSX.out)
        have HXq := hide (heapB HSX.out HX.out)
        have HLq := hide (HL.out.below HSX.out)
        have HAq := hide (HA.out.below HSX.out)
        have HBq := hide (below_wide HB.out HSX.out)
        have HB3q := hide (HB3x.out.trans (Below.mono HSX.out HB3x.out.size))
        clear HB3x
        have HB3x := HB3q
        clear HB3q
        have HCq := hide (heapB HSX.out HC12.out)
        clear HC12
        have HC12 := HCq
        clear HCq
        have HRq := hide (HRF.out.below HSX.out)
        clear HRF
        have HRF := HRq
        clear HRq
        clear HP HX HL HA HB
        have HP := HPq
        have HX := HXq
        have HL := HLq
        have HA := HAq
        have HB := HBq
        clear HPq HXq HLq HAq HBq
        clear HSX
        have HCT := hide (fun z (hz : BRow z gt (tab n F)) (ha : ActM B z xf xg xh xi A1 c1 (encL m1) A2 c2 l2 A3 c3 l3) => Count_tab n (tab n F) m1 (some ⟨gt, 0, none⟩) A1 (tab n F).length c1 z n6 hz.src HFP.out HMV.out HSM.out (by have := ha.s1; rw [encL_len] at this; exact this))
        rw [HFL.out, ← HCN.out, ← encL_len m1] at HCT
        have dcc : ((cn : Int) == (cn : Int)) = true := by simp
        have e0 := lat_cell (cell_heap (j := 0) HC12.out rfl)
        have e1 := lat_cell (cell_heap (j := 1) HC12.out rfl)
        have HSB := hide (fun z => sameBits_any none none 0 0 [] [] (lat w13 z) ⟨rfl, .inl ⟨rfl, rfl, rfl⟩⟩ ⟨rfl, .inl ⟨rfl, rfl, rfl⟩⟩ (Nat.zero_le _) (Nat.zero_le _))
        rw [decide_eq_true rfl, List.length_nil] at HSB
        have p1 := lat_cell (HP.out.cell (j := 1) rfl)
        have x6 := lat_cell (cell_heap (j := 6) HX.out rfl)
        have HCZ := hide (fun z => HCT.out (lat w13 z) (HRF.out.below (lat_below w13 z)) (HA.out.below (lat_below w13 z)))
        go_wp2_with fail
        refine wp_region_lat (by kernel_rfl) (lex_of (by kernel_rfl) lex21) ?_
        repeat (first | go_big_quiet_step ((first | (go_at_call 24; with_reducible exact calls_lat (HCZ.out _)) | (go_at_call 25; with_reducible exact calls_lat (HSB.out _)))) | quiet_step ((first | (go_at_call 24; with_reducible exact calls_lat (HCZ.out _)) | (go_at_call 25; with_reducible exact calls_lat (HSB.out _)))))
        refine wpQuiet_nil ?_
        intro _ hlat
        obtain ⟨v14, rfl⟩ := hlat
        go_wp2_with fail
        go_ret
        exact ⟨rfl, below_wide HB.out (lat_below _ _)⟩
end
end Go.Proofs.YtgfjdkkfgclhjaaGreat.Bd
/- tells, walked (printed by gen_fa.py). -/
namespace Go.Proofs.YtgfjdkkfgclhjaaGreat.Bd
open Go.RowKit Go.Proofs.YtgfjdkkfgclhjaaGreat Go.Proofs.YtgfjdkkfgclhjaaGreat.Lx Go.Maps

section
variable {D : Nat → Array Value → TypeId → Prop} {B : Nat} {w w' : World} {pp : Nat} {k : Blk} {s : St} {n ms q : Nat} {ns : List Nat} {Vn : Value} {ts : List Tb} {vs : List Value} {Vt : Value} {Hs : List Tb} {Vh : Value} {Fs : List (Env → Bool)} {xf xg xh xi : Int} {xb : Bool} {A1 A2 A3 : Option Addr} {c1 c2 c3 : Nat} {l1 l2 : List Int} {l3 : List Bool}
set_option maxHeartbeats 16000000 in
set_option maxRecDepth 100000 in
theorem tells_some (h : PlM D B w pp k s n ms ns Vn ts vs Vt Hs Vh) (P : Pl s n ms q Fs ns ts Hs) (L : Live w k s) (hq : q ≤ 60) (X : ActM B w xf xg xh xi A1 c1 l1 A2 c2 l2 A3 c3 l3) (m : Nat) (hm : m = 2 ^ n) (jf af : Nat) (F : Env → Bool) (of : ofP ns.length xf = (jf : Int)) (uf : jf < ts.length) (ef : nodeP ns xf = (af : Int)) (tf : ts[jf]? = some (tab n F)) (nf : Nod s af (lowV n) F) (m1 : List Nat) (hl1 : l1 = encL m1) (hfit : FitsP n (tab n F) (encL m1)) (hr : Rise m1) (hm1 : ∀ x ∈ m1, x < n) (hs : ∀ v ∈ supR n (tab n F), v ∈ m1) (bs : List Bool) (hle : leastR n (tab n F) m1 = some bs) (hbl : bs.length ≤ 64) :
    Calls Tryz.prog 8 #[.pointer (some ⟨pp, 0, none⟩), .agg (actC 10 xf xg xh xi xb A1 l1.length c1 A2 l2.length c2 A3 l3.length c3)] w fun e w' => e = .returned (.bool true) ∧ Below w.heap.size w w' := by
  have Ho := hide of
  have Hn := hide ef
  have HM := hide hm
  have HFL := hide (show (tab n F).length = m from by rw [tab_len, hm])
  have HFP := hide (show (tab n F).length = 2 ^ n from tab_len n F)
  have HNF := hide nf
  have HTF := hide tf
  have df : decide ((jf : Int) < 0) = false := decide_eq_false (by omega)
  have ixf : ((jf : Nat) : Int) < (ts.length : Int) := by omega
  clear of ef hm nf tf
  subst hl1
  have HFT := hide hfit
  have HRI := hide hr
  have HMV := hide hm1
  have HSU := hide hs
  have HLE := hide hle
  have HSM := hide (show m1.length ≤ 6 from Nat.le_trans (small_rows (hr.imp (fun h => by omega)) hm1) P.n6)
  clear hfit hr hm1 hs hle
  have HBL := hide hbl
  clear hbl
  have hbx := bel_one w (.cells #[.int .u8 10, .int .i64 xf, .int .i64 xg, .int .i64 xh, .int .i64 xi, .bool xb, .slice A1 (encL m1).length c1, .slice A2 l2.length c2, .slice A3 l3.length c3] 39)
  have HP := hide (h.below hbx)
  have HX := hide (heap_new w (.cells #[.int .u8 10, .int .i64 xf, .int .i64 xg, .int .i64 xh, .int .i64 xi, .bool xb, .slice A1 (encL m1).length c1, .slice A2 l2.length c2, .slice A3 l3.length c3] 39))
  have HL := hide (L.below hbx)
  have HA := hide (X.below hbx)
  have HB := hide hbx
  have HPL := hide P
  have HI := hide X.f
  have n6 := P.n6
  clear h X L hbx P
  go_enter Tryz.func8, Tryz.ntmps8
  go_upto_region 1 with fail
  generalize w.alloc (.cells #[.int .u8 10, .int .i64 xf, .int .i64 xg, .int .i64 xh, .int .i64 xi, .bool xb, .slice A1 (encL m1).length c1, .slice A2 l2.length c2, .slice A3 l3.length c3] 39) = w1 at *
  have HOF := hide (fun (z : World) (hz : PlM D B z pp k s n ms ns Vn ts vs Vt Hs Vh) => of_any hz HPL.out.two (by have := HPL.out.sm; omega) xf HI.out)
  have HND := hide (fun (z : World) (hz : PlM D B z pp k s n ms ns Vn ts vs Vt Hs Vh) => node_any hz HPL.out.two (by have := HPL.out.sm; omega) xf HI.out)
  rw [Ho.out] at HOF
  rw [Hn.out] at HND
  have x1 := cell_heap (j := 1) HX.out rfl
  go_wp2_with fail
  refine (HOF.out w1 HP.out).mono ?_
  rintro e w2 ⟨rfl, hw⟩
  subst w2
  clear x1 HOF
  have HB3x := hide (Below.refl w1.heap.size w1)
  obtain ⟨bA, hbA⟩ : ∃ b : Bool, b = if l3.length = n then atR n (tab n F) l3 else false := ⟨_, rfl⟩
  obtain ⟨eA, heA⟩ : ∃ e : Int, e = if l3.length = n then 0 else 1 := ⟨_, rfl⟩
  have HAT := hide (fun z (hz : Live z k s) (ha : ActM B z xf xg xh xi A1 c1 (encL m1) A2 c2 l2 A3 c3 l3) => At_p HPL.out hz hq HNF.out A3 c3 l3 ha.s3)
  rw [← hbA, ← heA] at HAT
  have HbA := hide hbA
  have HeA := hide heA
  clear hbA heA
  have p0 := lat_cell (HP.out.cell (j := 0) rfl)
  have x1 := lat_cell (cell_heap (j := 1) HX.out rfl)
  have x8 := lat_cell (cell_heap (j := 8) HX.out rfl)
  have HC0 := hide (fun z => HND.out (lat w1 z) (HP.out.below (lat_below w1 z)))
  have HC1 := hide (fun z => HAT.out (lat w1 z) (HL.out.below (lat_below w1 z)) (HA.out.below (lat_below w1 z)))
  go_wp2_with fail
  refine wp_region_lat (by kernel_rfl) (by kernel_rfl) ?_
  repeat (first | go_big_quiet_step ((first | (go_at_call 14; with_reducible exact calls_lat (HC0.out _)) | (go_at_call 13; with_reducible exact calls_lat (HC1.out _)))) | quiet_step ((first | (go_at_call 14; with_reducible exact calls_lat (HC0.out _)) | (go_at_call 13; with_reducible exact calls_lat (HC1.out _)))))
  refine wpQuiet_nil ?_
  intro _ hlat
  obtain ⟨v2, rfl⟩ := hlat
  clear p0 x1 x8 HC0 HC1
  have HPq := hide (HP.out.below (lat_below w1 v2))
  have HXq := hide (heapB (lat_below w1 v2) HX.out)
  have HLq := hide (HL.out.below (lat_below w1 v2))
  have HAq := hide (HA.out.below (lat_below w1 v2))
  have HBq := hide (below_wide HB.out (lat_below w1 v2))
  have HB3q := hide (HB3x.out.trans (Below.mono (lat_below w1 v2) HB3x.out.size))
  clear HB3x
  have HB3x := HB3q
  clear HB3q
  clear HP HX HL HA HB
  have HP := HPq
  have HX := HXq
  have HL := HLq
  have HA := HAq
  have HB := HBq
  clear HPq HXq HLq HAq HBq
  generalize lat w1 v2 = w2 at *
  obtain ⟨il, hil⟩ : ∃ il : Nat, il = (inner n (tab n F) []).length := ⟨_, rfl⟩
  have HSZ := hide (fun z (hz : Live z k s) => Size_p HPL.out hz hq HNF.out)
  rw [← hil] at HSZ
  have HIL := hide hil
  clear hil HAT
  have p0 := lat_cell (HP.out.cell (j := 0) rfl)
  have x1 := lat_cell (cell_heap (j := 1) HX.out rfl)
  have HC0 := hide (fun z => HND.out (lat w2 z) (HP.out.below (lat_below w2 z)))
  have HC1 := hide (fun z => HSZ.out (lat w2 z) (HL.out.below (lat_below w2 z)))
  go_wp2_with fail
  refine wp_region_lat (by kernel_rfl) (by kernel_rfl) ?_
  repeat (first | go_big_quiet_step ((first | (go_at_call 14; with_reducible exact calls_lat (HC0.out _)) | (go_at_call 15; with_reducible exact calls_lat (HC1.out _)))) | quiet_step ((first | (go_at_call 14; with_reducible exact calls_lat (HC0.out _)) | (go_at_call 15; with_reducible exact calls_lat (HC1.out _)))))
  refine wpQuiet_nil ?_
  intro _ hlat
  obtain ⟨v3, rfl⟩ := hlat
  clear p0 x1 HC0 HC1
  have HPq := hide (HP.out.below (lat_below w2 v3))
  have HXq := hide (heapB (lat_below w2 v3) HX.out)
  have HLq := hide (HL.out.below (lat_below w2 v3))
  have HAq := hide (HA.out.below (lat_below w2 v3))
  have HBq := hide (below_wide HB.out (lat_below w2 v3))
  have HB3q := hide (HB3x.out.trans (Below.mono (lat_below w2 v3) HB3x.out.size))
  clear HB3x
  have HB3x := HB3q
  clear HB3q
  clear HP HX HL HA HB
  have HP := HPq
  have HX := HXq
  have HL := HLq
  have HA := HAq
  have HB := HBq
  clear HPq HXq HLq HAq HBq
  generalize lat w2 v3 = w3 at *
  clear HB3x HSZ
  have HB3x := hide (Below.refl w3.heap.size w3)
  have HP3 := HP
  have HX3 := HX
  have HL3 := HL
  have HA3 := HA
  have HB3 := HB
  have HSX := hide (show Below w3.heap.size w3 w3.drew from (Below.refl _ _).drew)
  have p0 := fun z => cellB (pin_in (S := Below w3.heap.size w3) HSX.out z) (HP.out.cell (j := 0) rfl)
  have x1 := fun z => cellB (pin_in (S := Below w3.heap.size w3) HSX.out z) (cell_heap (j := 1) HX.out rfl)
  go_wp2_with fail
  refine wp_region_tree ((Below w3.heap.size w3)) (fun k => ([] : List Nat).contains k) (.take [0, 1, 2, 3, 4, 5, 6] (.step 7 (.step 8 (.take [9, 10, 11, 12, 13] .done)))) (by kernel_rfl) (by kernel_rfl) (by kernel_rfl) (by kernel_rfl) (.take (.cons (.zero) (.cons (.succ (.zero)) (.cons (.succ (.succ (.zero))) (.cons (.succ (.succ (.succ (.zero)))) (.cons (.succ (.succ (.succ (.succ (.zero))))) (.cons (.succ (.succ (.succ (.succ (.succ (.zero)))))) (.cons (.succ (.succ (.succ (.succ (.succ (.succ (.zero))))))) .nil))))))) (.step (.succ (.succ (.succ (.succ (.succ (.succ (.succ (.zero)))))))) rfl (.step (.succ (.succ (.succ (.succ (.succ (.succ (.succ (.succ (.zero))))))))) rfl (.take (.cons (.succ (.succ (.succ (.succ (.succ (.succ (.succ (.succ (.succ (.zero)))))))))) (.cons (.succ (.succ (.succ (.succ (.succ (.succ (.succ (.succ (.succ (.succ (.zero))))))))))) (.cons (.succ (.succ (.succ (.succ (.succ (.succ (.succ (.succ (.succ (.succ (.succ (.zero)))))))))))) (.cons (.succ (.succ (.succ (.succ (.succ (.succ (.succ (.succ (.succ (.succ (.succ (.succ (.zero))))))))))))) (.cons (.succ (.succ (.succ (.succ (.succ (.succ (.succ (.succ (.succ (.succ (.succ (.succ (.succ (.zero)))))))))))))) .nil))))) .done)))) ?hQ ?hS ?_
  case hQ => exact fun _ _ _ _ _ h => h
  case hS => exact HSX.out
  refine wpT_take ?_
  repeat (first | go_big_quiet_step ((fail)) | quiet_step ((fail)))
  refine wpQuiet_nil ?_
  clear p0 x1
  generalize w3.drew = y0 at *
  refine wpT_step rfl ?_
  intro K1 hK1
  go_wp2_with fail
  refine (HND.out y0 (HP.out.below HSX.out)).mono ?_
  rintro e y1 ⟨rfl, hb⟩
  have HGW := hide HSX.out.size
  have HSq := hide (HSX.out.trans (hb.mono HSX.out.size))
  clear hb HSX
  have HSX := HSq
  clear HSq
  refine hK1.out _ _ (fun _ => pin_mem HSX.out) ?_
  clear hK1
  clear HGW
  refine wpT_step rfl ?_
  intro K1 hK1
  go_wp2_with fail
  refine (Support_p HPL.out (HL.out.below HSX.out) hq HNF.out).mono ?_
  rintro e w4 ⟨VS, rfl, hVS, hb⟩
  have HGW := hide HSX.out.size
  have HSq := hide (HSX.out.trans (hb.mono HSX.out.size))
  clear hb HSX
  have HSX := HSq
  clear HSq
  refine hK1.out _ _ (fun _ => pin_mem HSX.out) ?_
  clear hK1
  refine wpT_take ?_
  repeat (first | go_big_quiet_step ((fail)) | quiet_step ((fail)))
  refine wpQuiet_nil ?_
  refine wpT_done ?_
  obtain ⟨SP, hSP⟩ : ∃ SP, SP = supR n (tab n F) := ⟨_, rfl⟩
  have hsl : SP.length ≤ n := by rw [hSP]; exact supR_len n (tab n F) n
  rw [← hSP] at hVS
  have HSP := hide hSP
  clear hSP
  obtain ⟨AV, cV, rfl⟩ := own_slice hVS
  have HVS := hide (show ∃ bv, w3.heap.size ≤ bv ∧ IRow bv w4 (.slice AV SP.length cV) SP from ⟨_, HGW.out, hVS⟩)
  clear hVS HGW
  have HPq := hide (HP.out.below HSX.out)
  have HXq := hide (heapB HSX.out HX.out)
  have HLq := hide (HL.out.below HSX.out)
  have HAq := hide (HA.out.below HSX.out)
  have HBq := hide (below_wide HB.out HSX.out)
  have HB3q := hide (HB3x.out.trans (Below.mono HSX.out HB3x.out.size))
  clear HB3x
  have HB3x := HB3q
  clear HB3q
  clear HP HX HL HA HB
  have HP := HPq
  have HX := HXq
  have HL := HLq
  have HA := HAq
  have HB := HBq
  clear HPq HXq HLq HAq HBq
  clear HSX
  obtain ⟨cn, hcn⟩ : ∃ cn : Nat, cn = countR (tab n F) (rowsR n m1) := ⟨_, rfl⟩
  have HCO := hide (fun z (hz : Live z k s) (ha : ActM B z xf xg xh xi A1 c1 (encL m1) A2 c2 l2 A3 c3 l3) => Count_fit HPL.out hz hq HNF.out A1 c1 m1 HRI.out HMV.out HSU.out (by have := ha.s1; rw [encL_len] at this; exact this))
  rw [← hcn, ← encL_len m1] at HCO
  have HCN := hide hcn
  clear hcn
  go_upto_region 5 with fail
  go_cut [12, 13] from 9999 (fun u v wr => ∃ c, u = .pointer (some ⟨c, 0, none⟩) ∧ v = .int .i64 0 ∧ wr.heap[c]? = some (.cells #[.int .u64 0, .int .u64 cn] 61 (0, 0)) ∧ w4.heap.size ≤ c ∧ Below w4.heap.size w4 wr)
  case first =>
    have HSX := hide (show Below w4.heap.size w4 w4.drew from (Below.refl _ _).drew)
    have p0 := fun z => cellB (pin_in (S := Below w4.heap.size w4) HSX.out z) (HP.out.cell (j := 0) rfl)
    have x1 := fun z => cellB (pin_in (S := Below w4.heap.size w4) HSX.out z) (cell_heap (j := 1) HX.out rfl)
    have x6 := fun z => cellB (pin_in (S := Below w4.heap.size w4) HSX.out z) (cell_heap (j := 6) HX.out rfl)
    go_wp2_with fail
    refine wp_region_tree ((Below w4.heap.size w4)) (fun k => ([] : List Nat).contains k) (.take [0, 1, 2, 3, 4, 5, 6, 8, 9] (.fork 7 (.fork 10 (.take [11, 12, 13] (.step 14 (.step 15 (.take [16] .done)))) 14 (.step 10 (.take [11, 12, 13] (.step 15 (.take [16] .done))))) 14 (.step 7 (.step 10 (.take [11, 12, 13] (.step 15 (.take [16] .done))))))) (by kernel_rfl) (by kernel_rfl) (by kernel_rfl) (by kernel_rfl) (.take (.cons (.zero) (.cons (.succ (.zero)) (.cons (.succ (.succ (.zero))) (.cons (.succ (.succ (.succ (.zero)))) (.cons (.succ (.succ (.succ (.succ (.zero))))) (.cons (.succ (.succ (.succ (.succ (.succ (.zero)))))) (.cons (.succ (.succ (.succ (.succ (.succ (.succ (.zero))))))) (.cons (.succ (.succ (.succ (.succ (.succ (.succ (.succ (.succ (.zero))))))))) (.cons (.succ (.succ (.succ (.succ (.succ (.succ (.succ (.succ (.succ (.zero)))))))))) .nil))))))))) (.fork (.succ (.succ (.succ (.succ (.succ (.succ (.succ (.zero)))))))) rfl (.fork (.succ (.succ (.succ (.succ (.succ (.succ (.succ (.succ (.succ (.succ (.zero))))))))))) rfl (.take (.cons (.succ (.succ (.succ (.succ (.succ (.succ (.succ (.succ (.succ (.succ (.succ (.zero)))))))))))) (.cons (.succ (.succ (.succ (.succ (.succ (.succ (.succ (.succ (.succ (.succ (.succ (.succ (.zero))))))))))))) (.cons (.succ (.succ (.succ (.succ (.succ (.succ (.succ (.succ (.succ (.succ (.succ (.succ (.succ (.zero)))))))))))))) .nil))) (.step (.succ (.succ (.succ (.succ (.succ (.succ (.succ (.succ (.succ (.succ (.succ (.succ (.succ (.succ (.zero))))))))))))))) rfl (.step (.succ (.succ (.succ (.succ (.succ (.succ (.succ (.succ (.succ (.succ (.succ (.succ (.succ (.succ (.succ (.zero)))))))))))))))) rfl (.take (.cons (.succ (.succ (.succ (.succ (.succ (.succ (.succ (.succ (.succ (.succ (.succ (.succ (.succ (.succ (.succ (.succ (.zero))))))))))))))))) .nil) .done)))) (.succ (.succ (.succ (.succ (.succ (.succ (.succ (.succ (.succ (.succ (.succ (.succ (.succ (.succ (.zero))))))))))))))) rfl (.step (.succ (.succ (.succ (.succ (.succ (.succ (.succ (.succ (.succ (.succ (.zero))))))))))) rfl (.take (.cons (.succ (.succ (.succ (.succ (.succ (.succ (.succ (.succ (.succ (.succ (.succ (.zero)))))))))))) (.cons (.succ (.succ (.succ (.succ (.succ (.succ (.succ (.succ (.succ (.succ (.succ (.succ (.zero))))))))))))) (.cons (.succ (.succ (.succ (.succ (.succ (.succ (.succ (.succ (.succ (.succ (.succ (.succ (.succ (.zero)))))))))))))) .nil))) (.step (.succ (.succ (.succ (.succ (.succ (.succ (.succ (.succ (.succ (.succ (.succ (.succ (.succ (.succ (.succ (.zero)))))))))))))))) rfl (.take (.cons (.succ (.succ (.succ (.succ (.succ (.succ (.succ (.succ (.succ (.succ (.succ (.succ (.succ (.succ (.succ (.succ (.zero))))))))))))))))) .nil) .done))))) (.succ (.succ (.succ (.succ (.succ (.succ (.succ (.succ (.succ (.succ (.succ (.succ (.succ (.succ (.zero))))))))))))))) rfl (.step (.succ (.succ (.succ (.succ (.succ (.succ (.succ (.zero)))))))) rfl (.step (.succ (.succ (.succ (.succ (.succ (.succ (.succ (.succ (.succ (.succ (.zero))))))))))) rfl (.take (.cons (.succ (.succ (.succ (.succ (.succ (.succ (.succ (.succ (.succ (.succ (.succ (.zero)))))))))))) (.cons (.succ (.succ (.succ (.succ (.succ (.succ (.succ (.succ (.succ (.succ (.succ (.succ (.zero))))))))))))) (.cons (.succ (.succ (.succ (.succ (.succ (.succ (.succ (.succ (.succ (.succ (.succ (.succ (.succ (.zero)))))))))))))) .nil))) (.step (.succ (.succ (.succ (.succ (.succ (.succ (.succ (.succ (.succ (.succ (.succ (.succ (.succ (.succ (.succ (.zero)))))))))))))))) rfl (.take (.cons (.succ (.succ (.succ (.succ (.succ (.succ (.succ (.succ (.succ (.succ (.succ (.succ (.succ (.succ (.succ (.succ (.zero))))))))))))))))) .nil) .done))))))) ?hQ ?hS ?_
    case hQ => exact fun _ _ _ _ _ h => h
    case hS => exact HSX.out
    refine wpT_take ?_
    repeat (first | go_big_quiet_step ((fail)) | quiet_step ((fail)))
    refine wpQuiet_nil ?_
    clear p0 x1 x6
    generalize w4.drew = y0 at *
    refine wpT_fork ?_ ?_
    · refine wpT_step rfl ?_
      intro K1 hK1
      go_wp2_with fail
      refine (HND.out y0 (HP.out.below HSX.out)).mono ?_
      rintro e y1 ⟨rfl, hb⟩
      have HSq := hide (HSX.out.trans (hb.mono HSX.out.size))
      clear hb HSX
      have HSX := HSq
      clear HSq
      refine hK1.out _ _ (fun _ => pin_mem HSX.out) ?_
      clear hK1
      refine wpT_fork ?_ ?_
      · refine wpT_step rfl ?_
        intro K1 hK1
        go_wp2_with fail
        refine (HCO.out y1 (HL.out.below HSX.out) (HA.out.below HSX.out)).mono ?_
        rintro e y2 ⟨rfl, hb⟩
        have HSq := hide (HSX.out.trans (hb.mono HSX.out.size))
        clear hb HSX
        have HSX := HSq
        clear HSq
        refine hK1.out _ _ (fun _ => pin_mem HSX.out) ?_
        clear hK1
        refine wpT_take ?_
        repeat (first | go_big_quiet_step ((fail)) | quiet_step ((fail)))
        refine wpQuiet_nil ?_
        refine wpT_step rfl ?_
        intro K1 hK1
        go_wp2_with fail
        have HSq := hide (HSX.out.alloc HSX.out.size (Obj.cells #[.int .u64 0, .int .u64 0] 61))
        have HC12 := hide (heap_new y2 (Obj.cells #[.int .u64 0, .int .u64 0] 61))
        have HGE := hide HSX.out.size
        clear HSX
        have HSX := HSq
        clear HSq
        refine hK1.out _ _ (fun _ => pin_mem HSX.out) ?_
        clear hK1
        generalize y2.alloc (Obj.cells #[.int .u64 0, .int .u64 0] 61) = y3 at *
        generalize y2.heap.size = c12 at *
        have s0 := cell_heap (j := 0) HC12.out rfl
        have f0 := frozen_heap (j := 0) HC12.out
        have s1 := fun (u : Value) => cell_heap (j := 1) (heap_set (j := 0) (u := u) HC12.out) rfl
        have f1 := fun (u : Value) => frozen_heap (j := 1) (heap_set (j := 0) (u := u) HC12.out)
        refine wpT_step rfl ?_
        intro K1 hK1
        go_wp2_with fail
        have HSq := hide ((HSX.out.setCell (p := ⟨c12, 0, none⟩) HGE.out (.int .u64 0)).setCell (p := ⟨c12, 1, none⟩) HGE.out (.int .u64 cn))
        have HCq := hide (show ((y3.setCell ⟨c12, 0, none⟩ (.int .u64 0)).setCell ⟨c12, 1, none⟩ (.int .u64 cn)).heap[c12]? = some (.cells #[.int .u64 0, .int .u64 cn] 61 (0, 0)) from heap_set (j := 1) (u := .int .u64 cn) (heap_set (j := 0) (u := .int .u64 0) HC12.out))
        clear s0 f0 s1 f1
        refine hK1.out _ _ (fun _ => pin_mem HSq.out) ?_
        clear hK1
        refine wpT_take ?_
        repeat (first | go_big_quiet_step ((fail)) | quiet_step ((fail)))
        refine wpQuiet_nil ?_
        refine wpT_done ?_
        go_wp2_with fail
        go_meet
        case rel => exact ⟨c12, rfl, rfl, HCq.out, HGE.out, HSq.out⟩
      · refine wpT_step rfl ?_
        intro K1 hK1
        go_wp2_with fail
        have HSq := hide (HSX.out.alloc HSX.out.size (Obj.cells #[.int .u64 0, .int .u64 0] 61))
        have HC12 := hide (heap_new y1 (Obj.cells #[.int .u64 0, .int .u64 0] 61))
        have HGE := hide HSX.out.size
        clear HSX
        have HSX := HSq
        clear HSq
        refine hK1.out _ _ (fun _ => pin_mem HSX.out) ?_
        clear hK1
        generalize y1.alloc (Obj.cells #[.int .u64 0, .int .u64 0] 61) = y2 at *
        generalize y1.heap.size = c12 at *
        refine wpT_step rfl ?_
        intro K1 hK1
        go_wp2_with fail
        refine (HCO.out y2 (HL.out.below HSX.out) (HA.out.below HSX.out)).mono ?_
        rintro e y3 ⟨rfl, hb⟩
        have HSq := hide (HSX.out.trans (hb.mono HSX.out.size))
        have HCq := hide (heapB hb HC12.out)
        clear HC12
        have HC12 := HCq
        clear HCq
        clear hb HSX
        have HSX := HSq
        clear HSq
        refine hK1.out _ _ (fun _ => pin_mem HSX.out) ?_
        clear hK1
        refine wpT_take ?_
        repeat (first | go_big_quiet_step ((fail)) | quiet_step ((fail)))
        refine wpQuiet_nil ?_
        have s0 := cell_heap (j := 0) HC12.out rfl
        have f0 := frozen_heap (j := 0) HC12.out
        have s1 := fun (u : Value) => cell_heap (j := 1) (heap_set (j := 0) (u := u) HC12.out) rfl
        have f1 := fun (u : Value) => frozen_heap (j := 1) (heap_set (j := 0) (u := u) HC12.out)
        refine wpT_step rfl ?_
        intro K1 hK1
        go_wp2_with fail
        have HSq := hide ((HSX.out.setCell (p := ⟨c12, 0, none⟩) HGE.out (.int .u64 0)).setCell (p := ⟨c12, 1, none⟩) HGE.out (.int .u64 cn))
        have HCq := hide (show ((y3.setCell ⟨c12, 0, none⟩ (.int .u64 0)).setCell ⟨c12, 1, none⟩ (.int .u64 cn)).heap[c12]? = some (.cells #[.int .u64 0, .int .u64 cn] 61 (0, 0)) from heap_set (j := 1) (u := .int .u64 cn) (heap_set (j := 0) (u := .int .u64 0) HC12.out))
        clear s0 f0 s1 f1
        refine hK1.out _ _ (fun _ => pin_mem HSq.out) ?_
        clear hK1
        refine wpT_take ?_
        repeat (first | go_big_quiet_step ((fail)) | quiet_step ((fail)))
        refine wpQuiet_nil ?_
        refine wpT_done ?_
        go_wp2_with fail
        go_meet
        case rel => exact ⟨c12, rfl, rfl, HCq.out, HGE.out, HSq.out⟩
    · refine wpT_step rfl ?_
      intro K1 hK1
      go_wp2_with fail
      have HSq := hide (HSX.out.alloc HSX.out.size (Obj.cells #[.int .u64 0, .int .u64 0] 61))
      have HC12 := hide (heap_new y0 (Obj.cells #[.int .u64 0, .int .u64 0] 61))
      have HGE := hide HSX.out.size
      clear HSX
      have HSX := HSq
      clear HSq
      refine hK1.out _ _ (fun _ => pin_mem HSX.out) ?_
      clear hK1
      generalize y0.alloc (Obj.cells #[.int .u64 0, .int .u64 0] 61) = y1 at *
      generalize y0.heap.size = c12 at *
      refine wpT_step rfl ?_
      intro K1 hK1
      go_wp2_with fail
      refine (HND.out y1 (HP.out.below HSX.out)).mono ?_
      rintro e y2 ⟨rfl, hb⟩
      have HSq := hide (HSX.out.trans (hb.mono HSX.out.size))
      have HCq := hide (heapB hb HC12.out)
      clear HC12
      have HC12 := HCq
      clear HCq
      clear hb HSX
      have HSX := HSq
      clear HSq
      refine hK1.out _ _ (fun _ => pin_mem HSX.out) ?_
      clear hK1
      refine wpT_step rfl ?_
      intro K1 hK1
      go_wp2_with fail
      refine (HCO.out y2 (HL.out.below HSX.out) (HA.out.below HSX.out)).mono ?_
      rintro e y3 ⟨rfl, hb⟩
      have HSq := hide (HSX.out.trans (hb.mono HSX.out.size))
      have HCq := hide (heapB hb HC12.out)
      clear HC12
      have HC12 := HCq
      clear HCq
      clear hb HSX
      have HSX := HSq
      clear HSq
      refine hK1.out _ _ (fun _ => pin_mem HSX.out) ?_
      clear hK1
      refine wpT_take ?_
      repeat (first | go_big_quiet_step ((fail)) | quiet_step ((fail)))
      refine wpQuiet_nil ?_
      have s0 := cell_heap (j := 0) HC12.out rfl
      have f0 := frozen_heap (j := 0) HC12.out
      have s1 := fun (u : Value) => cell_heap (j := 1) (heap_set (j := 0) (u := u) HC12.out) rfl
      have f1 := fun (u : Value) => frozen_heap (j := 1) (heap_set (j := 0) (u := u) HC12.out)
      refine wpT_step rfl ?_
      intro K1 hK1
      go_wp2_with fail
      have HSq := hide ((HSX.out.setCell (p := ⟨c12, 0, none⟩) HGE.out (.int .u64 0)).setCell (p := ⟨c12, 1, none⟩) HGE.out (.int .u64 cn))
      have HCq := hide (show ((y3.setCell ⟨c12, 0, none⟩ (.int .u64 0)).setCell ⟨c12, 1, none⟩ (.int .u64 cn)).heap[c12]? = some (.cells #[.int .u64 0, .int .u64 cn] 61 (0, 0)) from heap_set (j := 1) (u := .int .u64 cn) (heap_set (j := 0) (u := .int .u64 0) HC12.out))
      clear s0 f0 s1 f1
      refine hK1.out _ _ (fun _ => pin_mem HSq.out) ?_
      clear hK1
      refine wpT_take ?_
      repeat (first | go_big_quiet_step ((fail)) | quiet_step ((fail)))
      refine wpQuiet_nil ?_
      refine wpT_done ?_
      go_wp2_with fail
      go_meet
      case rel => exact ⟨c12, rfl, rfl, HCq.out, HGE.out, HSq.out⟩
  case rest =>
    obtain ⟨c12, rfl, rfl, hc12, hge, hbr⟩ := hcut
    generalize wc = w5 at *
    have HC12 := hide hc12
    have HGE := hide (show w3.heap.size ≤ c12 from Nat.le_trans HB3x.out.size hge)
    have HPq := hide (HP.out.below hbr)
    have HXq := hide (heapB hbr HX.out)
    have HLq := hide (HL.out.below hbr)
    have HAq := hide (HA.out.below hbr)
    have HBq := hide (below_wide HB.out hbr)
    have HB3q := hide (HB3x.out.trans (Below.mono hbr HB3x.out.size))
    clear HB3x
    have HB3x := HB3q
    clear HB3q
    have HVq := hide (show ∃ bv, w3.heap.size ≤ bv ∧ IRow bv _ (.slice AV SP.length cV) SP from ⟨_, HVS.out.choose_spec.1, own_below HVS.out.choose_spec.2 hbr⟩)
    clear HVS
    have HVS := HVq
    clear HVq
    clear HP HX HL HA HB
    have HP := HPq
    have HX := HXq
    have HL := HLq
    have HA := HAq
    have HB := HBq
    clear HPq HXq HLq HAq HBq
    clear hc12 hbr hge HCO
    have HLS := hide (fun z (hz : Live z k s) (ha : ActM B z xf xg xh xi A1 c1 (encL m1) A2 c2 l2 A3 c3 l3) => Least_fit HPL.out hz hq HNF.out A1 c1 m1 HFT.out HRI.out HMV.out HSU.out (by have := ha.s1; rw [encL_len] at this; exact this))
    rw [HLE.out, ← encL_len m1] at HLS
    have HSX := hide (show Below w5.heap.size w5 w5.drew from (Below.refl _ _).drew)
    have p0 := fun z => cellB (pin_in (S := Below w5.heap.size w5) HSX.out z) (HP.out.cell (j := 0) rfl)
    have x1 := fun z => cellB (pin_in (S := Below w5.heap.size w5) HSX.out z) (cell_heap (j := 1) HX.out rfl)
    have x6 := fun z => cellB (pin_in (S := Below w5.heap.size w5) HSX.out z) (cell_heap (j := 6) HX.out rfl)
    go_wp2_with fail
    refine wp_region_tree ((Below w5.heap.size w5)) (fun k => ([] : List Nat).contains k) (.take [0, 1, 2, 3, 4, 5, 6, 8, 9] (.step 7 (.step 10 (.take [11, 12, 13, 14, 15] .done)))) (by kernel_rfl) (by kernel_rfl) (by kernel_rfl) (by kernel_rfl) (.take (.cons (.zero) (.cons (.succ (.zero)) (.cons (.succ (.succ (.zero))) (.cons (.succ (.succ (.succ (.zero)))) (.cons (.succ (.succ (.succ (.succ (.zero))))) (.cons (.succ (.succ (.succ (.succ (.succ (.zero)))))) (.cons (.succ (.succ (.succ (.succ (.succ (.succ (.zero))))))) (.cons (.succ (.succ (.succ (.succ (.succ (.succ (.succ (.succ (.zero))))))))) (.cons (.succ (.succ (.succ (.succ (.succ (.succ (.succ (.succ (.succ (.zero)))))))))) .nil))))))))) (.step (.succ (.succ (.succ (.succ (.succ (.succ (.succ (.zero)))))))) rfl (.step (.succ (.succ (.succ (.succ (.succ (.succ (.succ (.succ (.succ (.succ (.zero))))))))))) rfl (.take (.cons (.succ (.succ (.succ (.succ (.succ (.succ (.succ (.succ (.succ (.succ (.succ (.zero)))))))))))) (.cons (.succ (.succ (.succ (.succ (.succ (.succ (.succ (.succ (.succ (.succ (.succ (.succ (.zero))))))))))))) (.cons (.succ (.succ (.succ (.succ (.succ (.succ (.succ (.succ (.succ (.succ (.succ (.succ (.succ (.zero)))))))))))))) (.cons (.succ (.succ (.succ (.succ (.succ (.succ (.succ (.succ (.succ (.succ (.succ (.succ (.succ (.succ (.zero))))))))))))))) (.cons (.succ (.succ (.succ (.succ (.succ (.succ (.succ (.succ (.succ (.succ (.succ (.succ (.succ (.succ (.succ (.zero)))))))))))))))) .nil))))) .done)))) ?hQ ?hS ?_
    case hQ => exact fun _ _ _ _ _ h => h
    case hS => exact HSX.out
    refine wpT_take ?_
    repeat (first | go_big_quiet_step ((fail)) | quiet_step ((fail)))
    refine wpQuiet_nil ?_
    clear p0 x1 x6
    generalize w5.drew = y0 at *
    refine wpT_step rfl ?_
    intro K1 hK1
    go_wp2_with fail
    refine (HND.out y0 (HP.out.below HSX.out)).mono ?_
    rintro e y1 ⟨rfl, hb⟩
    have HGW := hide HSX.out.size
    have HSq := hide (HSX.out.trans (hb.mono HSX.out.size))
    clear hb HSX
    have HSX := HSq
    clear HSq
    refine hK1.out _ _ (fun _ => pin_mem HSX.out) ?_
    clear hK1
    clear HGW
    refine wpT_step rfl ?_
    intro K1 hK1
    go_wp2_with fail
    refine (HLS.out y1 (HL.out.below HSX.out) (HA.out.below HSX.out)).mono ?_
    rintro e w6 ⟨hb, gm, rfl, hgm⟩
    have HGW := hide HSX.out.size
    have HSq := hide (HSX.out.trans (hb.mono HSX.out.size))
    clear hb HSX
    have HSX := HSq
    clear HSq
    refine hK1.out _ _ (fun _ => pin_mem HSX.out) ?_
    clear hK1
    refine wpT_take ?_
    repeat (first | go_big_quiet_step ((fail)) | quiet_step ((fail)))
    refine wpQuiet_nil ?_
    refine wpT_done ?_
    have HBM := hide hgm
    clear hgm HGW HLS
    have HPq := hide (HP.out.below HSX.out)
    have HXq := hide (heapB HSX.out HX.out)
    have HLq := hide (HL.out.below HSX.out)
    have HAq := hide (HA.out.below HSX.out)
    have HBq := hide (below_wide HB.out HSX.out)
    have HB3q := hide (HB3x.out.trans (Below.mono HSX.out HB3x.out.size))
    clear HB3x
    have HB3x := HB3q
    clear HB3q
    have HVq := hide (show ∃ bv, w3.heap.size ≤ bv ∧ IRow bv _ (.slice AV SP.length cV) SP from ⟨_, HVS.out.choose_spec.1, own_below HVS.out.choose_spec.2 HSX.out⟩)
    clear HVS
    have HVS := HVq
    clear HVq
    have HCq := hide (heapB HSX.out HC12.out)
    clear HC12
    have HC12 := HCq
    clear HCq
    clear HP HX HL HA HB
    have HP := HPq
    have HX := HXq
    have HL := HLq
    have HA := HAq
    have HB := HBq
    clear HPq HXq HLq HAq HBq
    clear HSX
    obtain ⟨ad, cT, gt, hVt, tcf, hrf⟩ := HP.out.row HM.out HTF.out
    subst hVt
    have HRF := hide hrf
    have p4 := HP.out.cell (j := 4) rfl
    go_upto_region 10 with fail
    clear p4 tcf hrf
    go_cut [185] from 9999 (fun u wr => u = .bool false ∧ Below w6.heap.size w6 wr)
    case first =>
      by_cases hv : l3.length = n
      · skip
        have hb0' := HbA.out
        have he0 := HeA.out
        rw [if_pos hv] at hb0' he0
        subst he0
        have d1 : ((l3.length : Int) != (n : Int)) = false := by rw [hv]; simp
        have d2 : ((l3.length : Int) == (n : Int)) = true := by rw [hv]; simp
        have HV := hide hv
        have HBQ := hide hb0'
        have HRA := hide (fun z => (At_tab n (tab n F) l3 (some ⟨gt, 0, none⟩) A3 (tab n F).length c3 (lat w6 z) n6 (HRF.out.below (lat_below w6 z)).src HFP.out (HA.out.below (lat_below w6 z)).s3 HV.out).mono (fun e w' (hh : e = .returned (.bool (atR n (tab n F) l3)) ∧ w' = lat w6 z) => (show e = .returned (.bool bA) ∧ lat w6 z = w' from ⟨by rw [hh.1, HBQ.out], hh.2.symm⟩)))
        rw [HFL.out] at HRA
        have hbb : (bA != bA) = false := by cases bA <;> rfl
        clear hv hb0'
        have p1 := lat_cell (HP.out.cell (j := 1) rfl)
        have x8 := lat_cell (cell_heap (j := 8) HX.out rfl)
        go_wp2_with fail
        refine wp_region_lat (by kernel_rfl) (lex_of (by kernel_rfl) lex10) ?_
        repeat (first | go_big_quiet_step ((go_at_call 19; with_reducible exact calls_lat_same (HRA.out _))) | quiet_step ((go_at_call 19; with_reducible exact calls_lat_same (HRA.out _))))
        refine wpQuiet_nil ?_
        intro _ hlat
        obtain ⟨v10, rfl⟩ := hlat
        go_wp2_with fail
        go_meet
        case rel => exact ⟨rfl, lat_below _ _⟩
      · skip
        have hb0' := HbA.out
        have he0 := HeA.out
        rw [if_neg hv] at hb0' he0
        subst he0 hb0'
        have d1 : ((l3.length : Int) != (n : Int)) = true := bne_iff_ne.2 (by omega)
        have d2 : ((l3.length : Int) == (n : Int)) = false := beq_if (by omega)
        clear hv
        have p1 := lat_cell (HP.out.cell (j := 1) rfl)
        have x8 := lat_cell (cell_heap (j := 8) HX.out rfl)
        go_wp2_with fail
        refine wp_region_lat (by kernel_rfl) (lex_of (by kernel_rfl) lex10) ?_
        repeat (first | go_big_quiet_step ((fail)) | quiet_step ((fail)))
        refine wpQuiet_nil ?_
        intro _ hlat
        obtain ⟨v10, rfl⟩ := hlat
        go_wp2_with fail
        go_meet
        case rel => exact ⟨rfl, lat_below _ _⟩
    case rest =>
      obtain ⟨rfl, hbr⟩ := hcut
      generalize wc = w7 at *
      have HPq := hide (HP.out.below hbr)
      have HXq := hide (heapB hbr HX.out)
      have HLq := hide (HL.out.below hbr)
      have HAq := hide (HA.out.below hbr)
      have HBq := hide (below_wide HB.out hbr)
      have HB3q := hide (HB3x.out.trans (Below.mono hbr HB3x.out.size))
      clear HB3x
      have HB3x := HB3q
      clear HB3q
      have HVq := hide (show ∃ bv, w3.heap.size ≤ bv ∧ IRow bv _ (.slice AV SP.length cV) SP from ⟨_, HVS.out.choose_spec.1, own_below HVS.out.choose_spec.2 hbr⟩)
      clear HVS
      have HVS := HVq
      clear HVq
      have HCq := hide (heapB hbr HC12.out)
      clear HC12
      have HC12 := HCq
      clear HCq
      have HRq := hide (HRF.out.below hbr)
      clear HRF
      have HRF := HRq
      clear HRq
      have HMq := hide (HBM.out.below hbr)
      clear HBM
      have HBM := HMq
      clear HMq
      clear HP HX HL HA HB
      have HP := HPq
      have HX := HXq
      have HL := HLq
      have HA := HAq
      have HB := HBq
      clear HPq HXq HLq HAq HBq
      clear hbr HbA HeA
      have p1 := HP.out.cell (j := 1) rfl
      have hin := Inner_any n (tab n F) gt 0 none 0 [] w7 n6 HRF.out HFP.out ⟨rfl, .inl ⟨rfl, rfl⟩⟩ (by simp) (Nat.zero_le _)
      rw [HFL.out] at hin
      have HIN := hide hin
      have d0 : ((il : Int) != (il : Int)) = false := by simp
      clear hin
      go_wp2_with fail
      refine HIN.out.mono ?_
      rintro e w8 ⟨VI, rfl, hd⟩
      have hb : Below w7.heap.size w7 w8 := grown_none rfl hd.fr
      have hle := hd.own
      obtain ⟨AI, cI, rfl⟩ := own_slice hle
      rw [← HIL.out]
      clear hle hd HIN p1
      have HPq := hide (HP.out.below hb)
      have HXq := hide (heapB hb HX.out)
      have HLq := hide (HL.out.below hb)
      have HAq := hide (HA.out.below hb)
      have HBq := hide (below_wide HB.out hb)
      have HB3q := hide (HB3x.out.trans (Below.mono hb HB3x.out.size))
      clear HB3x
      have HB3x := HB3q
      clear HB3q
      have HVq := hide (show ∃ bv, w3.heap.size ≤ bv ∧ IRow bv _ (.slice AV SP.length cV) SP from ⟨_, HVS.out.choose_spec.1, own_below HVS.out.choose_spec.2 hb⟩)
      clear HVS
      have HVS := HVq
      clear HVq
      have HCq := hide (heapB hb HC12.out)
      clear HC12
      have HC12 := HCq
      clear HCq
      have HRq := hide (HRF.out.below hb)
      clear HRF
      have HRF := HRq
      clear HRq
      have HMq := hide (HBM.out.below hb)
      clear HBM
      have HBM := HMq
      clear HMq
      clear HP HX HL HA HB
      have HP := HPq
      have HX := HXq
      have HL := HLq
      have HA := HAq
      have HB := HBq
      clear HPq HXq HLq HAq HBq
      clear hb
      have p1 := HP.out.cell (j := 1) rfl
      have hst := Support_tab n (tab n F) (some ⟨gt, 0, none⟩) (tab n F).length w8 n6 HRF.out.src HFP.out
      rw [HFL.out] at hst
      have HST := hide hst
      clear hst
      go_wp2_with fail
      refine HST.out.mono ?_
      rintro e w9 ⟨V9, rfl, hV9, hb⟩
      rw [← HSP.out] at hV9
      obtain ⟨A9, c9, rfl⟩ := own_slice hV9
      have H9 := hide hV9
      clear hV9 HST p1
      have HPq := hide (HP.out.below hb)
      have HXq := hide (heapB hb HX.out)
      have HLq := hide (HL.out.below hb)
      have HAq := hide (HA.out.below hb)
      have HBq := hide (below_wide HB.out hb)
      have HB3q := hide (HB3x.out.trans (Below.mono hb HB3x.out.size))
      clear HB3x
      have HB3x := HB3q
      clear HB3q
      have HVq := hide (show ∃ bv, w3.heap.size ≤ bv ∧ IRow bv _ (.slice AV SP.length cV) SP from ⟨_, HVS.out.choose_spec.1, own_below HVS.out.choose_spec.2 hb⟩)
      clear HVS
      have HVS := HVq
      clear HVq
      have HCq := hide (heapB hb HC12.out)
      clear HC12
      have HC12 := HCq
      clear HCq
      have HRq := hide (HRF.out.below hb)
      clear HRF
      have HRF := HRq
      clear HRq
      have HMq := hide (HBM.out.below hb)
      clear HBM
      have HBM := HMq
      clear HMq
      clear HP HX HL HA HB
      have HP := HPq
      have HX := HXq
      have HL := HLq
      have HA := HAq
      have HB := HBq
      clear HPq HXq HLq HAq HBq
      clear hb
      have hsi := sameInts_any AV A9 cV c9 (encL SP) (encL SP) w9 (by rw [encL_len]; exact src_of_own HVS.out.choose_spec.2) (by rw [encL_len]; exact src_of_own H9.out) (by rw [encL_len]; unfold maxLen; omega) (by rw [encL_len]; unfold maxLen; omega)
      rw [encL_len, decide_eq_true rfl] at hsi
      have HSI := hide hsi
      clear hsi
      go_upto_block 0 with fail
      refine HSI.out.mono ?_
      rintro e w10 ⟨rfl, hb⟩
      clear HSI H9
      have HPq := hide (HP.out.below hb)
      have HXq := hide (heapB hb HX.out)
      have HLq := hide (HL.out.below hb)
      have HAq := hide (HA.out.below hb)
      have HBq := hide (below_wide HB.out hb)
      have HB3q := hide (HB3x.out.trans (Below.mono hb HB3x.out.size))
      clear HB3x
      have HB3x := HB3q
      clear HB3q
      have HVq := hide (show ∃ bv, w3.heap.size ≤ bv ∧ IRow bv _ (.slice AV SP.length cV) SP from ⟨_, HVS.out.choose_spec.1, own_below HVS.out.choose_spec.2 hb⟩)
      clear HVS
      have HVS := HVq
      clear HVq
      have HCq := hide (heapB hb HC12.out)
      clear HC12
      have HC12 := HCq
      clear HCq
      have HRq := hide (HRF.out.below hb)
      clear HRF
      have HRF := HRq
      clear HRq
      have HMq := hide (HBM.out.below hb)
      clear HBM
      have HBM := HMq
      clear HMq
      clear HP HX HL HA HB
      have HP := HPq
      have HX := HXq
      have HL := HLq
      have HA := HAq
      have HB := HBq
      clear HPq HXq HLq HAq HBq
      clear hb
      have HW10 := hide HB3x.out.size
      go_upto_block 0 with fail
      go_cut [17] from 9999 (fun _ wr => Below w3.heap.size w10 wr ∧ wr.heap[c12]? = some (.cells #[.int .u64 0, .int .u64 cn] 61 (0, 0)) ∧ Bools w10 wr)
      case first =>
        rcases HVS.out.choose_spec.2.2 with ⟨hV, hz⟩ | ⟨gv, cap, cur, hV, hcap, hcur, hnc, hcm, hcs, hct⟩
        · injection hV with e1 e2 e3
          subst e1 e3
          have HL0 := hide e2
          clear hz e2
          go_wp2_with fail
          go_loopw [17] (fun j wr => j = .int .i64 0 ∧ wr = w10) (fun _ _ => 0)
          case atStart => exact ⟨rfl, rfl⟩
          case round =>
            obtain ⟨rfl, rfl⟩ := hrel
            have d1 : decide ((0 : Int) < (SP.length : Int)) = false := decide_eq_false (by have := HL0.out; omega)
            have d2 : decide (0 < SP.length) = false := decide_eq_false (by have := HL0.out; omega)
            go_wp2_with fail
            go_meet
            case rel => exact ⟨(Below.refl _ _).mono HW10.out, HC12.out, Bools.refl _⟩
        · cases hV
          have HCU := hide (show ∃ cur : Array Value, w10.heap[gv]? = some (.cells cur 3 (0, 0)) ∧ SP.length ≤ cur.size from ⟨cur, hcur, by omega⟩)
          have HGV := hide (show w3.heap.size ≤ gv from Nat.le_trans HVS.out.choose_spec.1 hcap)
          clear hcap hcur hnc hcm hcs hct
          go_wp2_with fail
          go_loopw [17] (fun j wr => ∃ i : Nat, j = .int .i64 i ∧ i ≤ SP.length ∧ (∃ cur : Array Value, wr.heap[gv]? = some (.cells cur 3 (0, 0)) ∧ SP.length ≤ cur.size) ∧ Below w3.heap.size w10 wr ∧ wr.heap[c12]? = some (.cells #[.int .u64 0, .int .u64 cn] 61 (0, 0)) ∧ Bools w10 wr) (fun j _ => SP.length - (intOf j).toNat)
          case atStart => exact ⟨0, rfl, Nat.zero_le _, HCU.out, (Below.refl _ _).mono HW10.out, HC12.out, Bools.refl _⟩
          case round =>
            obtain ⟨i, rfl, hi, ⟨cur, hcu, hsz⟩, hrl⟩ := hrel
            have HR := hide hrl
            clear hrl
            rcases Nat.lt_or_ge i SP.length with hlt | hge
            · have d1 : decide (i < SP.length) = true := decide_eq_true hlt
              have d1' : decide ((i : Int) < (SP.length : Int)) = true := decide_eq_true (by omega)
              have d2 : ((i : Int) < (SP.length : Int)) := by omega
              obtain ⟨uu, huu⟩ : ∃ u, cur[i]? = some u := ⟨_, Array.getElem?_eq_getElem (by omega)⟩
              have hcl := cell_heap (j := i) hcu huu
              have hfr := frozen_heap (j := i) hcu
              have HLT := hide hlt
              have HN := hide (show (∃ cur : Array Value, (wr.setCell ⟨gv, i, none⟩ (.int .i64 (-1))).heap[gv]? = some (.cells cur 3 (0, 0)) ∧ SP.length ≤ cur.size) from ⟨_, heap_set (j := i) (u := .int .i64 (-1)) hcu, by simpa using hsz⟩)
              have HN2 := hide (show Below w3.heap.size w10 (wr.setCell ⟨gv, i, none⟩ (.int .i64 (-1))) ∧ (wr.setCell ⟨gv, i, none⟩ (.int .i64 (-1))).heap[c12]? = some (.cells #[.int .u64 0, .int .u64 cn] 61 (0, 0)) ∧ Bools w10 (wr.setCell ⟨gv, i, none⟩ (.int .i64 (-1))) from ⟨HR.out.1.setCell (p := ⟨gv, i, none⟩) HGV.out _, heap_far HR.out.2.1 (heap_ne HR.out.2.1 hcu (by decide)), HR.out.2.2.trans (Bools.grown grown_set (fun b hb => by cases hb; exact ⟨cur, _, hcu, by decide⟩))⟩)
              clear hlt huu
              go_wp2_with fail
              go_roundw
              case rel => exact ⟨i + 1, by go_num, HLT.out, HN.out, HN2.out⟩
              case measure => have := HLT.out; simp [intOf]; omega
            · obtain rfl : i = SP.length := by omega
              have d1 : decide (SP.length < SP.length) = false := decide_eq_false (by omega)
              have d1' : decide ((SP.length : Int) < (SP.length : Int)) = false := decide_eq_false (by omega)
              clear hcu hsz
              go_wp2_with fail
              go_meet
              case rel => exact HR.out
      case rest =>
        obtain ⟨hb, hc12, hbo⟩ := hcut
        generalize wc = w11 at *
        have HRq := hide (hbo gt _ HRF.out)
        clear HRF
        have HRF := HRq
        clear HRq
        have HMq := hide (hbo gm _ HBM.out)
        clear HBM
        have HBM := HMq
        clear HMq
        clear HC12
        have HC12 := hide hc12
        have hb3 := HB3x.out.trans hb
        clear HP HX HL HA HB HVS hc12 hbo hb HB3x
        have HP := hide (HP3.out.below hb3)
        have HX := hide (heapB hb3 HX3.out)
        have HL := hide (HL3.out.below hb3)
        have HA := hide (HA3.out.below hb3)
        have HB := hide (below_wide HB3.out hb3)
        clear HP3 HX3 HL3 HA3 HB3 hb3
        have HB3x := hide (Below.refl w11.heap.size w11)
        have HFI := hide (fun z (hz : BRow z gt (tab n F)) (ha : ActM B z xf xg xh xi A1 c1 (encL m1) A2 c2 l2 A3 c3 l3) => (Fits_any n (tab n F) (encL m1) (some ⟨gt, 0, none⟩) A1 (tab n F).length c1 z n6 hz.src HFP.out ha.s1 (len_max ha.n1)).mono (fun e w' (hh : FitsOut n (tab n F) (encL m1) z e w') => (show e = .returned (.bool true) ∧ Below z.heap.size z w' from by
          obtain ⟨b, he, hb, hbl⟩ := hh
          refine ⟨?_, hbl⟩
          cases b with
          | true => exact he
          | false => exact absurd (hb.2 HFT.out) Bool.false_ne_true)))
        rw [HFL.out] at HFI
        have p1 := lat_cell (HP.out.cell (j := 1) rfl)
        have x6 := lat_cell (cell_heap (j := 6) HX.out rfl)
        have HC0 := hide (fun z => HFI.out (lat w11 z) (HRF.out.below (lat_below w11 z)) (HA.out.below (lat_below w11 z)))
        go_wp2_with fail
        refine wp_region_lat (by kernel_rfl) (by kernel_rfl) ?_
        repeat (first | go_big_quiet_step (((go_at_call 22; with_reducible exact calls_lat (HC0.out _)))) | quiet_step (((go_at_call 22; with_reducible exact calls_lat (HC0.out _)))))
        refine wpQuiet_nil ?_
        intro _ hlat
        obtain ⟨v12, rfl⟩ := hlat
        clear p1 x6 HC0
        have HPq := hide (HP.out.below (lat_below w11 v12))
        have HXq := hide (heapB (lat_below w11 v12) HX.out)
        have HLq := hide (HL.out.below (lat_below w11 v12))
        have HAq := hide (HA.out.below (lat_below w11 v12))
        have HBq := hide (below_wide HB.out (lat_below w11 v12))
        have HB3q := hide (HB3x.out.trans (Below.mono (lat_below w11 v12) HB3x.out.size))
        clear HB3x
        have HB3x := HB3q
        clear HB3q
        have HCq := hide (heapB (lat_below w11 v12) HC12.out)
        clear HC12
        have HC12 := HCq
        clear HCq
        have HRq := hide (HRF.out.below (lat_below w11 v12))
        clear HRF
        have HRF := HRq
        clear HRq
        have HMq := hide (HBM.out.below (lat_below w11 v12))
        clear HBM
        have HBM := HMq
        clear HMq
        clear HP HX HL HA HB
        have HP := HPq
        have HX := HXq
        have HL := HLq
        have HA := HAq
        have HB := HBq
        clear HPq HXq HLq HAq HBq
        generalize lat w11 v12 = w12 at *
        clear HFI
        have HLT := hide (fun z (hz : BRow z gt (tab n F)) (ha : ActM B z xf xg xh xi A1 c1 (encL m1) A2 c2 l2 A3 c3 l3) => Least_tab n (tab n F) m1 (some ⟨gt, 0, none⟩) A1 (tab n F).length c1 z n6 hz.src HFP.out HMV.out HSM.out (by have := ha.s1; rw [encL_len] at this; exact this))
        rw [HLE.out, HFL.out, ← encL_len m1] at HLT
        have HSX := hide (show Below w12.heap.size w12 w12.drew from (Below.refl _ _).drew)
        have p1 := fun z => cellB (pin_in (S := Below w12.heap.size w12) HSX.out z) (HP.out.cell (j := 1) rfl)
        have x6 := fun z => cellB (pin_in (S := Below w12.heap.size w12) HSX.out z) (cell_heap (j := 6) HX.out rfl)
        go_wp2_with fail
        refine wp_region_tree ((Below w12.heap.size w12)) (fun k => ([] : List Nat).contains k) (.take [0, 1, 2, 3, 4, 5, 6] (.step 7 (.take [8, 9, 10, 11, 12] .done))) (by kernel_rfl) (by kernel_rfl) (by kernel_rfl) (by kernel_rfl) (.take (.cons (.zero) (.cons (.succ (.zero)) (.cons (.succ (.succ (.zero))) (.cons (.succ (.succ (.succ (.zero)))) (.cons (.succ (.succ (.succ (.succ (.zero))))) (.cons (.succ (.succ (.succ (.succ (.succ (.zero)))))) (.cons (.succ (.succ (.succ (.succ (.succ (.succ (.zero))))))) .nil))))))) (.step (.succ (.succ (.succ (.succ (.succ (.succ (.succ (.zero)))))))) rfl (.take (.cons (.succ (.succ (.succ (.succ (.succ (.succ (.succ (.succ (.zero))))))))) (.cons (.succ (.succ (.succ (.succ (.succ (.succ (.succ (.succ (.succ (.zero)))))))))) (.cons (.succ (.succ (.succ (.succ (.succ (.succ (.succ (.succ (.succ (.succ (.zero))))))))))) (.cons (.succ (.succ (.succ (.succ (.succ (.succ (.succ (.succ (.succ (.succ (.succ (.zero)))))))))))) (.cons (.succ (.succ (.succ (.succ (.succ (.succ (.succ (.succ (.succ (.succ (.succ (.succ (.zero))))))))))))) .nil))))) .done))) ?hQ ?hS ?_
        case hQ => exact fun _ _ _ _ _ h => h
        case hS => exact HSX.out
        refine wpT_take ?_
        repeat (first | go_big_quiet_step ((fail)) | quiet_step ((fail)))
        refine wpQuiet_nil ?_
        clear p1 x6
        generalize w12.drew = y0 at *
        refine wpT_step rfl ?_
        intro K1 hK1
        go_wp2_with fail
        refine (HLT.out y0 (HRF.out.below HSX.out) (HA.out.below HSX.out)).mono ?_
        rintro e w13 ⟨hb, VL, rfl, hVL⟩
        have HGW := hide HSX.out.size
        have HSq := hide (HSX.out.trans (hb.mono HSX.out.size))
        clear hb HSX
        have HSX := HSq
        clear HSq
        refine hK1.out _ _ (fun _ => pin_mem HSX.out) ?_
        clear hK1
        refine wpT_take ?_
        repeat (first | go_big_quiet_step ((fail)) | quiet_step ((fail)))
        refine wpQuiet_nil ?_
        refine wpT_done ?_
        obtain ⟨AL, cL, rfl⟩ := own_slice hVL
        have HVL := hide hVL
        clear hVL
        clear HGW HLT
        have HPq := hide (HP.out.below HSX.out)
        have HXq := hide (heapB HSX.out HX.out)
        have HLq := hide (HL.out.below HSX.out)
        have HAq := hide (HA.out.below HSX.out)
        have HBq := hide (below_wide HB.out HSX.out)
        have HB3q := hide (HB3x.out.trans (Below.mono HSX.out HB3x.out.size))
        clear HB3x
        have HB3x := HB3q
        clear HB3q
        have HCq := hide (heapB HSX.out HC12.out)
        clear HC12
        have HC12 := HCq
        clear HCq
        have HRq := hide (HRF.out.below HSX.out)
        clear HRF
        have HRF := HRq
        clear HRq
        have HMq := hide (HBM.out.below HSX.out)
        clear HBM
        have HBM := HMq
        clear HMq
        clear HP HX HL HA HB
        have HP := HPq
        have HX := HXq
        have HL := HLq
        have HA := HAq
        have HB := HBq
        clear HPq HXq HLq HAq HBq
        clear HSX
        have HCT := hide (fun z (hz : BRow z gt (tab n F)) (ha : ActM B z xf xg xh xi A1 c1 (encL m1) A2 c2 l2 A3 c3 l3) => Count_tab n (tab n F) m1 (some ⟨gt, 0, none⟩) A1 (tab n F).length c1 z n6 hz.src HFP.out HMV.out HSM.out (by have := ha.s1; rw [encL_len] at this; exact this))
        rw [HFL.out, ← HCN.out, ← encL_len m1] at HCT
        have dcc : ((cn : Int) == (cn : Int)) = true := by simp
        have e0 := lat_cell (cell_heap (j := 0) HC12.out rfl)
        have e1 := lat_cell (cell_heap (j := 1) HC12.out rfl)
        have HSB := hide (fun z => sameBits_any (some ⟨gm, 0, none⟩) AL bs.length cL bs bs (lat w13 z) (HBM.out.below (lat_below w13 z)).src ((src_of_own HVL.out).below (lat_below w13 z)) (by have := HBL.out; unfold maxLen; omega) (by have := HBL.out; unfold maxLen; omega))
        rw [decide_eq_true rfl] at HSB
        have p1 := lat_cell (HP.out.cell (j := 1) rfl)
        have x6 := lat_cell (cell_heap (j := 6) HX.out rfl)
        have HCZ := hide (fun z => HCT.out (lat w13 z) (HRF.out.below (lat_below w13 z)) (HA.out.below (lat_below w13 z)))
        go_wp2_with fail
        refine wp_region_lat (by kernel_rfl) (lex_of (by kernel_rfl) lex21) ?_
        repeat (first | go_big_quiet_step ((first | (go_at_call 24; with_reducible exact calls_lat (HCZ.out _)) | (go_at_call 25; with_reducible exact calls_lat (HSB.out _)))) | quiet_step ((first | (go_at_call 24; with_reducible exact calls_lat (HCZ.out _)) | (go_at_call 25; with_reducible exact calls_lat (HSB.out _)))))
        refine wpQuiet_nil ?_
        intro _ hlat
        obtain ⟨v14, rfl⟩ := hlat
        go_wp2_with fail
        go_ret
        exact ⟨rfl, below_wide HB.out (lat_below _ _)⟩
end
end Go.Proofs.YtgfjdkkfgclhjaaGreat.Bd
/- tells, for whatever act that answers no node; the play's start. -/
namespace Go.Proofs.YtgfjdkkfgclhjaaGreat.Bd
open Go.RowKit Go.Proofs.YtgfjdkkfgclhjaaGreat Go.Proofs.YtgfjdkkfgclhjaaGreat.Lx Go.Maps

section
variable {D : Nat → Array Value → TypeId → Prop} {B : Nat} {w w' : World} {pp : Nat} {k : Blk} {s : St} {n ms q : Nat} {ns : List Nat} {Vn : Value} {ts : List Tb} {vs : List Value} {Vt : Value} {Hs : List Tb} {Vh : Value} {Fs : List (Env → Bool)} {xf xg xh xi : Int} {xb : Bool} {A1 A2 A3 : Option Addr} {c1 c2 c3 : Nat} {l1 l2 : List Int} {l3 : List Bool}
theorem least_len {f : Tb} {m1 : List Nat} {bs : List Bool} (h : leastR n f m1 = some bs) : bs.length = m1.length := by
  unfold leastR at h
  obtain ⟨r, _, rfl⟩ := Option.map_eq_some_iff.1 h
  rw [List.length_map]
theorem tells_any (h : PlM D B w pp k s n ms ns Vn ts vs Vt Hs Vh) (P : Pl s n ms q Fs ns ts Hs) (L : Live w k s) (hq : q ≤ 60) (X : ActM B w xf xg xh xi A1 c1 l1 A2 c2 l2 A3 c3 l3) :
    Calls Tryz.prog 8 #[.pointer (some ⟨pp, 0, none⟩), .agg (actC 10 xf xg xh xi xb A1 l1.length c1 A2 l2.length c2 A3 l3.length c3)] w fun e w' => e = .returned (.bool true) ∧ Below w.heap.size w w' := by
  by_cases gf : xf < 0
  · exact tells_bad h P L hq X gf
  obtain ⟨jf, af, F, of, uf, ef, tf, nf⟩ := P.arg (x := xf) (by omega)
  by_cases hfit : FitsP n (tab n F) l1
  · obtain ⟨m1, hl1, hr, hm1, hs⟩ := hfit.nat
    have hfit' : FitsP n (tab n F) (encL m1) := hl1 ▸ hfit
    have hln := small_rows (hr.imp (fun h => by omega)) hm1
    cases hle : leastR n (tab n F) m1 with
    | none => exact tells_none h P L hq X _ rfl jf af F of uf ef tf nf m1 hl1 hfit' hr hm1 hs hle
    | some bs => exact tells_some h P L hq X _ rfl jf af F of uf ef tf nf m1 hl1 hfit' hr hm1 hs bs hle (by rw [least_len hle]; have := P.n6; omega)
  · exact tells_no h P L hq X _ rfl jf af F of uf ef tf nf hfit
end
/-! ### the start -/
theorem mod7 (v : Int) : ∃ n : Nat, n ≤ 6 ∧ wrap64 ((IntKind.u64.wrap v).tmod 7) = (n : Int) := by
  have h0 : 0 ≤ IntKind.u64.wrap v := by
    simp only [IntKind.wrap, IntKind.signed, Bool.false_eq_true, if_false]
    exact Int.emod_nonneg _ (by decide)
  generalize IntKind.u64.wrap v = U at *
  rw [Int.tmod_eq_emod_of_nonneg h0]
  have h1 := Int.emod_nonneg U (show (7 : Int) ≠ 0 by decide)
  have h2 := Int.emod_lt_of_pos U (show (0 : Int) < 7 by decide)
  generalize U % 7 = R at *
  refine ⟨R.toNat, by omega, ?_⟩
  unfold wrap64
  omega
theorem own_pair {w : World} {base g : Nat} {t : TypeId} {a b : Value} (h : w.heap[g]? = some (.cells #[a, b] t (0, 0))) (hb : base ≤ g) : w.ownsRow base t 1 (.slice (some ⟨g, 0, none⟩) 2 2) 2 [a, b] :=
  ⟨rfl, .inr ⟨g, 2, #[a, b], rfl, hb, h, Nat.le_refl _, by unfold maxLen; omega, rfl, rfl⟩⟩
abbrev NoD : Nat → Array Value → TypeId → Prop := fun _ _ _ => False
/-- the play in its first world -/
theorem plm_start {w0 w : World} {k : Blk} {n ms g1 g2 gn gt pp : Nat} (M : Mine w0 w k (St.new n ms)) (hn : w.heap[gn]? = some (.cells #[.int .i64 0, .int .i64 1] 3 (0, 0))) (ht : w.heap[gt]? = some (.cells #[.slice (some ⟨g1, 0, none⟩) (2 ^ n) (2 ^ n), .slice (some ⟨g2, 0, none⟩) (2 ^ n) (2 ^ n)] 32 (0, 0))) (h1 : BRow w g1 (tab n fun _ => false)) (h2 : BRow w g2 (tab n fun _ => true)) (hp : w.heap[pp]? = some (.cells #[.pointer (some ⟨k.p, 0, none⟩), .int .i64 n, .int .i64 ms, .slice (some ⟨gn, 0, none⟩) 2 2, .slice (some ⟨gt, 0, none⟩) 2 2, .slice none 0 0] 37 (0, 0)))
    (l1 : w0.heap.size ≤ gn) (l2 : w0.heap.size ≤ gt) (l3 : w0.heap.size ≤ pp) :
    PlM NoD w0.heap.size w pp k (St.new n ms) n ms [0, 1] (.slice (some ⟨gn, 0, none⟩) 2 2) [allR n false, allR n true] [.slice (some ⟨g1, 0, none⟩) (2 ^ n) (2 ^ n), .slice (some ⟨g2, 0, none⟩) (2 ^ n) (2 ^ n)] (.slice (some ⟨gt, 0, none⟩) 2 2) [] (.slice none 0 0) := by
  refine ⟨hp, own_pair hn l1, ⟨own_pair ht l2, ⟨rfl, fun i v t hv htt => ?_⟩⟩, ⟨rfl, .inl ⟨rfl, rfl⟩⟩, M.L.ar, l3, M.f, fun g cs t d => d.elim⟩
  rcases i with _ | _ | i
  · simp at hv htt
    subst hv htt
    rw [all_tab]
    exact ⟨g1, by rw [tab_len], h1⟩
  · simp at hv htt
    subst hv htt
    rw [all_tab]
    exact ⟨g2, by rw [tab_len], h2⟩
  · simp at hv
theorem new_neg (vs ms : Int) (w : World) (h1 : 0 ≤ vs) (h2 : vs ≤ 256) (h0 : ms < 0) : Calls Tryz.prog 4 #[.int .i64 vs, .int .i64 ms] w fun e w' => e = .returned (.tuple #[.pointer none, .int .i64 1]) ∧ w' = w := by
  have d1 : decide (vs < 0) = false := decide_eq_false (by omega)
  have d2 : decide ((256 : Int) < vs) = false := decide_eq_false (by omega)
  have d3 : decide (ms < 0) = true := decide_eq_true h0
  go_enter Tryz.func4, Tryz.ntmps4
  go_wp2_with fail
  go_ret2
  exact ⟨rfl, rfl⟩
/-! ### the acts, as they come in -/
structure AV where
  d : Nat
  f : Int
  g : Int
  h : Int
  i : Int
  b : Bool
  A1 : Option Addr
  c1 : Nat
  l1 : List Int
  A2 : Option Addr
  c2 : Nat
  l2 : List Int
  A3 : Option Addr
  c3 : Nat
  l3 : List Bool
def AV.cells (x : AV) : List Value := [.int .u8 x.d, .int .i64 x.f, .int .i64 x.g, .int .i64 x.h, .int .i64 x.i, .bool x.b, .slice x.A1 x.l1.length x.c1, .slice x.A2 x.l2.length x.c2, .slice x.A3 x.l3.length x.c3]
structure AV.ok (B : Nat) (w : World) (x : AV) : Prop where
  d : x.d < 256
  f : I64 x.f
  g : I64 x.g
  h : I64 x.h
  i : I64 x.i
  s1 : Src w x.A1 x.l1.length x.c1 1 (x.l1.map encI)
  s2 : Src w x.A2 x.l2.length x.c2 1 (x.l2.map encI)
  s3 : Src w x.A3 x.l3.length x.c3 1 (x.l3.map Value.bool)
  b1 : ∀ a, x.A1 = some a → x.l1 ≠ [] → a.block < B
  b2 : ∀ a, x.A2 = some a → x.l2 ≠ [] → a.block < B
  b3 : ∀ a, x.A3 = some a → x.l3 ≠ [] → a.block < B
  n1 : x.l1.length ≤ 17592186044416
  n2 : x.l2.length ≤ 17592186044416
  n3 : x.l3.length ≤ 140737488355328
theorem flat_at {α : Type} (f : α → List Value) (m : Nat) (hf : ∀ x, (f x).length = m) : ∀ (xs : List α) (i j : Nat) (x : α), xs[i]? = some x → j < m → (xs.flatMap f)[i * m + j]? = (f x)[j]?
  | y :: ys, 0, j, x, h, hj => by
    simp at h
    subst h
    rw [List.flatMap_cons, Nat.zero_mul, Nat.zero_add, List.getElem?_append_left (by rw [hf]; exact hj)]
  | y :: ys, i + 1, j, x, h, hj => by
    rw [List.flatMap_cons, List.getElem?_append_right (by rw [hf, Nat.succ_mul]; omega), hf, show (i + 1) * m + j - m = i * m + j by rw [Nat.succ_mul]; omega]
    exact flat_at f m hf ys i j x (by simpa using h) hj
  | [], i, j, x, h, _ => by simp at h
end Go.Proofs.YtgfjdkkfgclhjaaGreat.Bd
