/- Count, whole. -/
import Derived.Test.YtgfjdkkfgclhjaaCH
namespace Go.Proofs.Ytgfjdkkfgclhjaa.Bd
open Go.RowKit Go.Proofs.Ytgfjdkkfgclhjaa Go.Proofs.Ytgfjdkkfgclhjaa.Lx Go.Maps

def fd0C : Int → Option Cn := fun x => if x = 1 then some (0, 1) else if x = 0 then some (0, 0) else none
theorem doneC_start {S : Nat → Bool} {nd : List Nd} {ov : List Nat} (hall : ∀ x ∈ ov, x < 256) : DoneC S nd ov fd0C := by
  refine ⟨rfl, rfl, fun i c hc t F d => ?_⟩
  unfold fd0C at hc
  split at hc
  · cases hc
    obtain rfl : i = 1 := by omega
    obtain ⟨rfl, rfl⟩ := d.det .one
    have e : fromL ov 256 = [] := by
      unfold fromL
      rw [List.filter_eq_nil_iff]
      intro x hx
      have := hall x hx
      simp; omega
    unfold cntN
    rw [e]
    rfl
  · split at hc
    · cases hc
      obtain rfl : i = 0 := by omega
      obtain ⟨rfl, rfl⟩ := d.det .zero
      unfold cntN
      rw [cntL_none]
      rfl
    · cases hc
theorem rises_true {S : Nat → Bool} {s : St} (hW : WF s.nd) {f t : Nat} {F : Env → Bool} (d : Den S s.nd f t F) {ov : List Nat} (hov : Rise ov) (hall : ∀ x ∈ ov, x < s.vs) (hin : ∀ x, S x = true → x ∈ ov) {w w' : World} {e : Ending} (h : RisesOut s.vs s.nd f (encL ov) w e w') : e = .returned (.bool true) ∧ Below w.heap.size w w' := by
  rcases h with ⟨hn, _⟩ | ⟨_, he, hb⟩
  · exact absurd (fun j x y hj hx hy => by
      unfold encL at hx hy
      rw [List.getElem?_map] at hx hy
      obtain ⟨a, ha, rfl⟩ := Option.map_eq_some_iff.1 hx
      obtain ⟨b, hb, rfl⟩ := Option.map_eq_some_iff.1 hy
      have h1 := lt_of_some ha
      have h2 := lt_of_some hb
      have := List.pairwise_iff_getElem.1 hov j (j + 1) h1 h2 (by omega)
      rw [List.getElem?_eq_getElem h1] at ha
      rw [List.getElem?_eq_getElem h2] at hb
      cases ha; cases hb
      omega) hn
  · refine ⟨?_, hb⟩
    rw [he, knownB_of hall]
    have : (supL s.nd f).any (notIn (encL ov)) = false := by
      rw [List.any_eq_false]
      intro x hx
      obtain ⟨v, rfl, hv⟩ := (supL_mem hW d x).1 hx
      have hm := hin v (d.hangs_in hv).2.2
      unfold notIn
      simp only [Bool.not_eq_true', Bool.not_eq_false', Bool.not_eq_eq_eq_not, Bool.not_true, List.any_eq_true, ne_eq]
      intro hc
      rw [List.any_eq_false] at hc
      exact hc (v : Int) (List.mem_map.2 ⟨v, hm, rfl⟩) (by simp)
    rw [this]
    rfl
/-- what the call lays before the walk -/
theorem cs_start {w w2 w3 w4 : World} {p : Nat} {sl : Value} (hb : Below w.heap.size w w2) (x0 : w2.heap[w.heap.size]? = some (.cells #[.pointer (some ⟨p, 0, none⟩)] 24 (0, 0))) (x1 : w2.heap[w.heap.size + 1]? = some (.cells #[sl] 37 (0, 0)))
    (ht1 : World.mapTurned ((w2.alloc (.cells #[.func (.func 30) #[] #[.pointer (some ⟨w.heap.size + 1, 0, none⟩), .pointer (some ⟨w.heap.size, 0, none⟩)]] 69)).alloc (.map #[] 0)) w3 (w2.heap.size + 1)) (ht2 : w3.mapTurned w4 (w2.heap.size + 1)) (hm : MCnt Try.prog w4 21 (w2.heap.size + 1) 2 enc3 fd0C) :
    Cs ((w4.alloc (.cells #[.map (some (w2.heap.size + 1))] 70)).alloc (.cells #[.func (.func 32) #[] #[.pointer (some ⟨w4.heap.size, 0, none⟩), .pointer (some ⟨w.heap.size, 0, none⟩), .pointer (some ⟨w4.heap.size + 1, 0, none⟩), .pointer (some ⟨w2.heap.size, 0, none⟩)]] 71))
      p w4.heap.size w.heap.size (w4.heap.size + 1) w2.heap.size (w.heap.size + 1) (w2.heap.size + 1) 2 sl fd0C ∧
    Below w2.heap.size w2 ((w4.alloc (.cells #[.map (some (w2.heap.size + 1))] 70)).alloc (.cells #[.func (.func 32) #[] #[.pointer (some ⟨w4.heap.size, 0, none⟩), .pointer (some ⟨w.heap.size, 0, none⟩), .pointer (some ⟨w4.heap.size + 1, 0, none⟩), .pointer (some ⟨w2.heap.size, 0, none⟩)]] 71)) := by
  have hg := (ht1.trans ht2).grown
  have hs := hg.size
  simp only [World.size_alloc] at hs
  have l0 := lt_heap x0
  have l1 := lt_heap x1
  have c4 : w4.heap[w2.heap.size]? = some (.cells #[.func (.func 30) #[] #[.pointer (some ⟨w.heap.size + 1, 0, none⟩), .pointer (some ⟨w.heap.size, 0, none⟩)]] 69 (0, 0)) := heap_grown (heap_old (heap_new _ _)) hg (opt_ne (by omega))
  have y0 := heap_grown (heap_old (heap_old x0)) hg (opt_ne (by omega))
  have y1 := heap_grown (heap_old (heap_old x1)) hg (opt_ne (by omega))
  have hb4 : Below w2.heap.size w2 w4 := (((Below.refl _ w2).alloc (Nat.le_refl _) _).alloc (by simp) _).grown hg (by simp; omega) (fun b e => by injection e with e; omega)
  refine ⟨⟨heap_old (heap_new _ _), heap_old (heap_old y0), ?_, heap_old (heap_old c4), heap_old (heap_old y1), ?_⟩, (hb4.alloc (by omega) _).alloc (by simp; omega) _⟩
  · have := heap_new (w4.alloc (.cells #[.map (some (w2.heap.size + 1))] 70)) (.cells #[.func (.func 32) #[] #[.pointer (some ⟨w4.heap.size, 0, none⟩), .pointer (some ⟨w.heap.size, 0, none⟩), .pointer (some ⟨w4.heap.size + 1, 0, none⟩), .pointer (some ⟨w2.heap.size, 0, none⟩)]] 71)
    rw [show (w4.alloc (.cells #[.map (some (w2.heap.size + 1))] 70)).heap.size = w4.heap.size + 1 by simp] at this
    exact this
  · exact (hm.kept (World.grownBy_alloc _ _ none) (by simp)).kept (World.grownBy_alloc _ _ none) (by simp)
theorem count_total {S : Nat → Bool} {nd : List Nd} {f t : Nat} {F : Env → Bool} (d : Den S nd f t F) {ov : List Nat} (hov : Rise ov) (hn : ov.length ≤ 127) : ok2 (cntN ov t F) ∧ val (cntN ov t F) * 2 ^ plc ov t < 340282366920938463463374607431768211456 ∧ ofN (val (cntN ov t F) * 2 ^ plc ov t) = ofN (cntL F ov z0) := by
  have h1 := (cnt_lt (ov := ov) F t z0 hn).1
  obtain ⟨a, b, c⟩ := half_val h1
  refine ⟨a, b, c.trans ?_⟩
  have := cnt_skip hov (Nat.zero_le t) (fun v hv ρ b => d.free hv ρ b) z0
  rw [fromL_zero, plc_zero, Nat.sub_zero] at this
  rw [this]
set_option maxHeartbeats 4000000 in
set_option maxRecDepth 100000 in
theorem Count_any (S : Nat → Bool) (k : Blk) (s : St) (f t : Nat) (F : Env → Bool) (A : Option Addr) (c : Nat) (ov : List Nat) (w : World) (hA : Ar w k s) (hv : s.vs ≤ 256) (g1 : s.gi f = true) (d : Den S s.nd f t F) (hov : Rise ov) (hall : ∀ x ∈ ov, x < s.vs) (hin : ∀ x, S x = true → x ∈ ov) (hS : Src w A ov.length c 1 ((encL ov).map encI)) (hn : ov.length ≤ 127) (hm : s.m + 2 ≤ 1000000000) (hp : 2 + 2 ^ nS S t ≤ 2000000000) :
    Calls Try.prog 11 #[.pointer (some ⟨k.p, 0, none⟩), .int .i64 f, .slice A ov.length c] w fun e w' => e = .returned (.tuple #[cEl (ofN (cntL F ov z0)), .int .i64 0]) ∧ Below w.heap.size w w' := by
  have hW := hA.wf
  have hnm := hA.nm
  have hfl := d.lt hW
  obtain ⟨x0, x1, x2, hb3, hs3⟩ := three_boxes w #[.pointer (some ⟨k.p, 0, none⟩)] #[.slice A ov.length c] #[.int .u64 0, .int .u64 0] 24 37 34
  obtain ⟨W, hWd⟩ : ∃ W, W = (((w.alloc (.cells #[.pointer (some ⟨k.p, 0, none⟩)] 24)).alloc (.cells #[.slice A ov.length c] 37)).alloc (.cells #[.int .u64 0, .int .u64 0] 34)) := ⟨_, rfl⟩
  rw [← hWd] at x0 x1 x2 hb3 hs3
  have hbl := below_wide hb3 (bel_one W (.cells #[.int .i64 f] 3))
  have HC := hide (check_any k s [(f : Int)] W.heap.size _ (hA.below hbl) (cells1 W f) (by simp; omega) (by simp))
  rw [show [(f : Int)].length = 1 from rfl, gvn_all (s := s) (l := [(f : Int)]) (by simp [g1]), hs3] at HC
  have HRI := hide (rises_any k s f A c (encL ov) (W.alloc (.cells #[.int .i64 f] 3)) (hA.below hbl) g1 hfl (by rw [encL_len]; exact hS.below hbl) (by rw [encL_len]; omega) hm)
  rw [encL_len] at HRI
  have y0 : (W.alloc (.cells #[.int .i64 f] 3)).cell? ⟨w.heap.size, 0, none⟩ = some (.pointer (some ⟨k.p, 0, none⟩)) := cell_heap (heap_old x0) rfl
  have y1 : (W.alloc (.cells #[.int .i64 f] 3)).cell? ⟨w.heap.size + 1, 0, none⟩ = some (.slice A ov.length c) := cell_heap (heap_old x1) rfl
  have y9 : W.cell? ⟨w.heap.size, 0, none⟩ = some (.pointer (some ⟨k.p, 0, none⟩)) := cell_heap x0 rfl
  have HX := hide (And.intro (heap_old (p := .cells #[.int .i64 f] 3) x0) (And.intro (heap_old (p := .cells #[.int .i64 f] 3) x1) (heap_old (p := .cells #[.int .i64 f] 3) x2)))
  have HRT := hide (fun (e : Ending) (w' : World) => rises_true (w := (W.alloc (.cells #[.int .i64 f] 3))) (w' := w') (e := e) hW d hov hall hin)
  have HBL := hide hbl
  have HH : Hid (CntHyp S k s w A c ov) := hide ⟨hA, hov, fun x hx => by have := hall x hx; omega, hin, hS, hn, hm⟩
  have HD := hide d
  have HT := hide (count_total d hov hn)
  have hmm := @run_makeMap Try.prog
  have hk0 := key3 0 (by omega) (by omega)
  have hk1 := key3 1 (by omega) (by omega)
  have d127 : decide ((127 : Int) < ov.length) = false := by simp; omega
  have hwr : IntKind.i32.wrap (f : Int) = f := wrap3 (by omega) (by omega)
  clear hA d hov hall hin hS hbl hb3 hs3 x0 x1 x2 g1
  subst hWd
  go_enter Try.func11, Try.ntmps11
  go_wp2_with fail
  refine HC.out.mono ?_
  rintro e w1 ⟨rfl, rfl⟩
  go_wp2_with fail
  refine HRI.out.mono ?_
  intro e w2 hh
  obtain ⟨rfl, hb⟩ := HRT.out e w2 hh
  have z0 := heapB hb HX.out.1
  have z1 := heapB hb HX.out.2.1
  have z2 := heapB hb HX.out.2.2
  have HZ := hide (And.intro z0 (And.intro z1 z2))
  have HB2 := hide (below_wide HBL.out hb)
  have v0 := cell_heap (j := 0) z0 rfl
  have v1 := cell_heap (j := 0) z1 rfl
  have HMS := hide (MCnt.made (P := Try.prog) (w2.alloc (.cells #[.func (.func 30) #[] #[.pointer (some ⟨w.heap.size + 1, 0, none⟩), .pointer (some ⟨w.heap.size, 0, none⟩)]] 69)) 21 enc3)
  rw [show (w2.alloc (.cells #[.func (.func 30) #[] #[.pointer (some ⟨w.heap.size + 1, 0, none⟩), .pointer (some ⟨w.heap.size, 0, none⟩)]] 69)).heap.size = w2.heap.size + 1 by simp] at HMS
  clear hh hb z0 z1 z2 y0 y1 y9 HC HRI HRT HX
  go_wp2_with (refine wpList_insC rfl (.tmp 32) _ _ rfl HMS.out keyed3 Try.underlying70 (by unfold maxLen; omega) enc3_inj rfl (0 : Int) _ rfl hk0 (0, 0) rfl ?_)
  intro w3 hm1 ht1
  have HM1 := hide hm1
  have HT1 := hide ht1
  clear hm1 ht1
  go_wp2_with (refine wpList_insC rfl (.tmp 32) _ _ rfl HM1.out keyed3 Try.underlying70 (by unfold maxLen; omega) enc3_inj rfl (1 : Int) _ rfl hk1 (0, 1) rfl ?_)
  intro w4 hm2 ht2
  have HM2 := hide hm2
  have HT2 := hide ht2
  clear hm2 ht2
  have HV := hide (cs_start HB2.out HZ.out.1 HZ.out.2.1 HT1.out HT2.out HM2.out)
  go_wp2_with fail
  have HR2 := hide (heapB HV.out.2 HZ.out.2.2)
  have HC5 := hide HV.out.1
  have HB5 := hide (below_wide HB2.out HV.out.2)
  clear HV HM1 HM2 HT1 HT2 HMS
  generalize ((w4.alloc (.cells #[.map (some (w2.heap.size + 1))] 70)).alloc (.cells #[.func (.func 32) #[] #[.pointer (some ⟨w4.heap.size, 0, none⟩), .pointer (some ⟨w.heap.size, 0, none⟩), .pointer (some ⟨w4.heap.size + 1, 0, none⟩), .pointer (some ⟨w2.heap.size, 0, none⟩)]] 71)) = w5 at *
  have s2 := HB2.out.size
  have HE5 := hide (HC5.out.below ((Below.refl w5.heap.size w5).drew))
  have HWK := hide (count_all S k s w A c ov w4.heap.size w.heap.size (w4.heap.size + 1) w2.heap.size (w.heap.size + 1) (w2.heap.size + 1) HH.out (by omega) (f + 1) f t F w5.drew 2 fd0C (by omega) HD.out HB5.out.drew HE5.out (doneC_start HH.out.hall) hp)
  have HTM := hide (fun w' => times_any (cntN ov t F) (plc ov t) w' HT.out.1 HT.out.2.1 (by have := plc_le ov t; omega))
  rw [HT.out.2.2] at HTM
  have HPL := hide (fun (w' : World) (hb : Below w.heap.size w w') (h5 : w'.cell? ⟨w.heap.size + 1, 0, none⟩ = some (.slice A ov.length c)) (h3 : w'.cell? ⟨w.heap.size, 0, none⟩ = some (.pointer (some ⟨k.p, 0, none⟩))) => place_any S k s f t F A c ov (w.heap.size + 1) w.heap.size w' (HH.out.hA.below hb) HD.out HH.out.hov HH.out.hall (fun h2 => HH.out.hin _ (by
    obtain ⟨_, _, _, _, _, _, _, _, _, _, _, _, _, h, _⟩ := HD.out.row h2
    exact h)) (Src.below HH.out.hS hb) HH.out.hn h5 h3 HH.out.hm)
  generalize hX : ofN (cntL F ov z0) = X at *
  generalize hpt : plc ov t = pt at *
  unfold cEl at HTM
  have k5 : w5.drew.cell? ⟨w4.heap.size + 1, 0, none⟩ = some (.func (.func 32) #[] #[.pointer (some ⟨w4.heap.size, 0, none⟩), .pointer (some ⟨w.heap.size, 0, none⟩), .pointer (some ⟨w4.heap.size + 1, 0, none⟩), .pointer (some ⟨w2.heap.size, 0, none⟩)]) ∧ w5.drew.cell? ⟨w2.heap.size, 0, none⟩ = some (.func (.func 30) #[] #[.pointer (some ⟨w.heap.size + 1, 0, none⟩), .pointer (some ⟨w.heap.size, 0, none⟩)]) := ⟨cell_heap HE5.out.c3 rfl, cell_heap HE5.out.c4 rfl⟩
  have HPT := hide hpt
  have HXX := hide hX
  have HR5 := hide (show w5.drew.heap[w.heap.size + 1 + 1]? = _ from HR2.out)
  clear v0 v1 hX hpt
  go_region_held3 (fun w' => w'.cell? ⟨w4.heap.size + 1, 0, none⟩ = some (.func (.func 32) #[] #[.pointer (some ⟨w4.heap.size, 0, none⟩), .pointer (some ⟨w.heap.size, 0, none⟩), .pointer (some ⟨w4.heap.size + 1, 0, none⟩), .pointer (some ⟨w2.heap.size, 0, none⟩)]) ∧ w'.cell? ⟨w2.heap.size, 0, none⟩ = some (.func (.func 30) #[] #[.pointer (some ⟨w.heap.size + 1, 0, none⟩), .pointer (some ⟨w.heap.size, 0, none⟩)]))
    (first | exact k5 | exact k6 | exact k7 | exact k8 | exact k9 _ | exact k10 _ _)
    (first
      | (go_at_call 32; (with_reducible refine HWK.out.mono ?_); intro e w6 hh; unfold CntOut at hh; obtain ⟨N2, fd2, he, hg2, hn2, hm2, hD2⟩ := hh; unfold cEl at he; subst he; have HE6 := hide (HE5.out.kept hg2 hm2); have HB6 := hide (HB5.out.drew.grown hg2 HB5.out.drew.size (fun b e => by injection e with e; omega)); have HR6 := hide (heap_grown HR5.out hg2 (HE5.out.ne HR5.out)); have k6 := And.intro (cell_heap (j := 0) HE6.out.c3 rfl) (cell_heap (j := 0) HE6.out.c4 rfl); clear hg2 hn2 hm2 hD2)
      | (go_at_call 30; (with_reducible refine (HPL.out _ HB6.out (cell_heap HE6.out.c5 rfl) (cell_heap HE6.out.c2 rfl)).mono ?_); rintro e w7 ⟨rfl, hb7⟩; have HB7 := hide (HB6.out.trans (hb7.mono HB6.out.size)); have HE7 := hide (HE6.out.below hb7); have HR7 := hide (heapB hb7 HR6.out); have k7 := And.intro (cell_heap (j := 0) HE7.out.c3 rfl) (cell_heap (j := 0) HE7.out.c4 rfl); clear hb7)
      | (go_at_call 33; (with_reducible refine (HTM.out _).mono ?_); rintro e w8 ⟨rfl, hb8⟩; have HB8 := hide (HB7.out.trans (hb8.mono HB7.out.size)); have HE8 := hide (HE7.out.below hb8); have hr8 := heapB hb8 HR7.out; have HR8 := hide hr8; have k8 := And.intro (cell_heap (j := 0) HE8.out.c3 rfl) (cell_heap (j := 0) HE8.out.c4 rfl); have r0 := cell_heap (j := 0) hr8 rfl; have rf0 := frozen_heap (j := 0) hr8; have r1 := fun (u : Value) => cell_heap (j := 1) (heap_set (j := 0) (u := u) hr8) rfl; have rf1 := fun (u : Value) => frozen_heap (j := 1) (heap_set (j := 0) (u := u) hr8); have k9 := fun (u : Value) => And.intro (cell_heap (j := 0) (HE8.out.far (j := 0) (u := u) hr8).c3 rfl) (cell_heap (j := 0) (HE8.out.far (j := 0) (u := u) hr8).c4 rfl); have k10 := fun (u v : Value) => And.intro (cell_heap (j := 0) ((HE8.out.far (j := 0) (u := u) hr8).far (j := 1) (u := v) (heap_set hr8)).c3 rfl) (cell_heap (j := 0) ((HE8.out.far (j := 0) (u := u) hr8).far (j := 1) (u := v) (heap_set hr8)).c4 rfl); clear hb8 hr8))
  all_goals (
    have q0h := hide (cell_heap (j := 0) (heap_set (j := 1) (u := .int .u64 (X.2 : Int)) (heap_set (j := 0) (u := .int .u64 (X.1 : Int)) HR8.out)) rfl)
    have q1h := hide (cell_heap (j := 1) (heap_set (j := 1) (u := .int .u64 (X.2 : Int)) (heap_set (j := 0) (u := .int .u64 (X.1 : Int)) HR8.out)) rfl)
    have HBF := hide ((HB8.out.setCell (p := ⟨w.heap.size + 1 + 1, 0, none⟩) (by simp; omega) (.int .u64 (X.1 : Int))).setCell (p := ⟨w.heap.size + 1 + 1, 1, none⟩) (by simp; omega) (.int .u64 (X.2 : Int)))
    clear k8 k9 k10 r0 rf0 r1 rf1
    go_wp2_with fail
    generalize (w8.setCell ⟨w.heap.size + 1 + 1, 0, none⟩ (.int .u64 (X.1 : Int))).setCell ⟨w.heap.size + 1 + 1, 1, none⟩ (.int .u64 (X.2 : Int)) = w9 at *
    have q0 := q0h.out
    have q1 := q1h.out
    exact bodyPost_ret (v := .tuple #[.agg #[.int .u64 (X.1 : Int), .int .u64 (X.2 : Int)], .int .i64 0]) (by simp [results, Try.results11, go_sem, q0, q1]) rfl ⟨by rw [HXX.out]; rfl, HBF.out⟩)
end Go.Proofs.Ytgfjdkkfgclhjaa.Bd
