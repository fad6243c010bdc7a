/- below, Support. -/
import Derived.Test.YtgfjdkkfgclhjaaCB
import Derived.Test.YtgfjdkkfgclhjaaShelf
import Derived.Lib.OwnBridge
import Derived.Lib.AppendIntMem
import Derived.Sort.OwnSortedInts
namespace Go.Proofs.Ytgfjdkkfgclhjaa.Bd
open Go.RowKit Go.Proofs.Ytgfjdkkfgclhjaa Go.Proofs.Ytgfjdkkfgclhjaa.Lx Go.Maps

theorem bs_start {w0 w w1 w2 : World} {nd : List Nd} {p bo ba : Nat} (hB : Below w0.heap.size w0 w) (hbo : w.heap[bo]? = some (.cells #[.slice none 0 0] 37 (0, 0))) (hba : w.heap[ba]? = some (.cells #[.pointer (some ⟨p, 0, none⟩)] 24 (0, 0))) (l6 : w0.heap.size ≤ bo) (l7 : w0.heap.size ≤ ba)
    (ht1 : World.mapTurned (((w.alloc (.cells #[.pointer (some ⟨p, 0, none⟩)] 24)).alloc (.cells #[.func (.func 48) #[] #[.pointer (some ⟨bo, 0, none⟩), .pointer (some ⟨ba, 0, none⟩)]] 87)).alloc (.map #[] 0)) w1 (w.heap.size + 2)) (ht2 : w1.mapTurned w2 (w.heap.size + 2))
    (hm : MSet Try.prog w2 21 4 (w.heap.size + 2) 2 2 enc3 fun x => decide (x = 1) || decide (x = 0)) :
    Bs w0 ((w2.alloc (.cells #[.map (some (w.heap.size + 2))] 63)).alloc (.cells #[(.func (.func 59) #[] #[.pointer (some ⟨w2.heap.size, 0, none⟩), .pointer (some ⟨w.heap.size + 1, 0, none⟩), .pointer (some ⟨w2.heap.size + 1, 0, none⟩), .pointer (some ⟨w.heap.size, 0, none⟩)])] 87))
      nd p w2.heap.size (w.heap.size + 1) (w2.heap.size + 1) w.heap.size (w.heap.size + 2) bo ba [] [] := by
  have hg := (ht1.trans ht2).grown
  have hs := hg.size
  simp only [World.size_alloc] at hs
  have hsw := hB.size
  have lbo := lt_heap hbo
  have lba := lt_heap hba
  have c4 : w2.heap[w.heap.size]? = some (.cells #[.pointer (some ⟨p, 0, none⟩)] 24 (0, 0)) := heap_grown (heap_old (heap_old (heap_new _ _))) hg (opt_ne (by omega))
  have c2 : w2.heap[w.heap.size + 1]? = some (.cells #[.func (.func 48) #[] #[.pointer (some ⟨bo, 0, none⟩), .pointer (some ⟨ba, 0, none⟩)]] 87 (0, 0)) := by
    have := heap_new (w.alloc (.cells #[.pointer (some ⟨p, 0, none⟩)] 24)) (.cells #[.func (.func 48) #[] #[.pointer (some ⟨bo, 0, none⟩), .pointer (some ⟨ba, 0, none⟩)]] 87)
    rw [show (w.alloc (.cells #[.pointer (some ⟨p, 0, none⟩)] 24)).heap.size = w.heap.size + 1 by simp] at this
    exact heap_grown (heap_old this) hg (opt_ne (by omega))
  have co : w2.heap[bo]? = some (.cells #[.slice none 0 0] 37 (0, 0)) := heap_grown (heap_old (heap_old (heap_old hbo))) hg (opt_ne (by omega))
  have ca : w2.heap[ba]? = some (.cells #[.pointer (some ⟨p, 0, none⟩)] 24 (0, 0)) := heap_grown (heap_old (heap_old (heap_old hba))) hg (opt_ne (by omega))
  have hb : Below w.heap.size w w2 := ((((Below.refl _ w).alloc (Nat.le_refl _) _).alloc (by simp) _).alloc (by simp; omega) _).grown hg (by simp; omega) (fun b e => by injection e with e; omega)
  have hb0 : Below w0.heap.size w0 w2 := hB.trans (hb.mono hsw)
  refine ⟨heap_old (heap_new _ _), heap_old (heap_old c2), ?_, heap_old (heap_old c4), heap_old (heap_old ca), ?_, ⟨.slice none 0 0, heap_old (heap_old co), ⟨rfl, .inl ⟨rfl, rfl⟩⟩⟩, (hb0.alloc (by omega) _).alloc (by simp; omega) _, by omega, by omega, by omega, by omega, by omega, l6, l7⟩
  · have := heap_new (w2.alloc (.cells #[.map (some (w.heap.size + 2))] 63)) (.cells #[(.func (.func 59) #[] #[.pointer (some ⟨w2.heap.size, 0, none⟩), .pointer (some ⟨w.heap.size + 1, 0, none⟩), .pointer (some ⟨w2.heap.size + 1, 0, none⟩), .pointer (some ⟨w.heap.size, 0, none⟩)])] 87)
    rw [show (w2.alloc (.cells #[.map (some (w.heap.size + 2))] 63)).heap.size = w2.heap.size + 1 by simp] at this
    exact this
  · have e : (fun x : Int => decide (x = 1) || decide (x = 0)) = seenB [] := by rw [← seen_start]; funext x; simp
    rw [e] at hm
    exact (hm.kept (World.grownBy_alloc _ _ none) (by simp)).kept (World.grownBy_alloc _ _ none) (by simp)
def ToldOut (w0 : World) (nd : List Nd) (bo f : Nat) (e : Ending) (w' : World) : Prop := e = .returned (.tuple #[]) ∧ ∃ v, w'.heap[bo]? = some (.cells #[v] 37 (0, 0)) ∧ w'.ownsRow w0.heap.size 3 1 v (beneath nd f).length ((beneath nd f).map fun (x : Nat) => encI (topOf nd x)) ∧ Below w0.heap.size w0 w'
set_option maxHeartbeats 1000000 in
set_option maxRecDepth 100000 in
theorem below_any (k : Blk) (s : St) (w0 w : World) (hA : Ar w0 k s) (hm : s.m + 2 ≤ 1000000000) (f bo ba : Nat) (hf : f < s.nd.length) (hB : Below w0.heap.size w0 w) (hbo : w.heap[bo]? = some (.cells #[.slice none 0 0] 37 (0, 0))) (hba : w.heap[ba]? = some (.cells #[.pointer (some ⟨k.p, 0, none⟩)] 24 (0, 0))) (l6 : w0.heap.size ≤ bo) (l7 : w0.heap.size ≤ ba) :
    Calls Try.prog 47 #[.pointer (some ⟨k.p, 0, none⟩), .int .i32 f, .func (.func 48) #[] #[.pointer (some ⟨bo, 0, none⟩), .pointer (some ⟨ba, 0, none⟩)]] w (ToldOut w0 s.nd bo f) := by
  have HA := hide hA
  have HB := hide (And.intro hB (And.intro hbo hba))
  have HMS := hide (MSet.made (P := Try.prog) ((w.alloc (.cells #[.pointer (some ⟨k.p, 0, none⟩)] 24)).alloc (.cells #[.func (.func 48) #[] #[.pointer (some ⟨bo, 0, none⟩), .pointer (some ⟨ba, 0, none⟩)]] 87)) 21 4 enc3)
  have hsz : ((w.alloc (.cells #[.pointer (some ⟨k.p, 0, none⟩)] 24)).alloc (.cells #[.func (.func 48) #[] #[.pointer (some ⟨bo, 0, none⟩), .pointer (some ⟨ba, 0, none⟩)]] 87)).heap.size = w.heap.size + 2 := by simp
  rw [hsz] at HMS
  have hmm := @run_makeMap Try.prog
  clear hA hB hbo hba hsz
  go_enter Try.func47, Try.ntmps47
  go_wp2_with (refine wpList_ins rfl (.tmp 8) _ _ rfl HMS.out keyed3 Try.underlying63 Try.underlying4 (by unfold maxLen; omega) enc3_inj rfl (0 : Int) _ rfl (key3 0 (by omega) (by omega)) rfl ?_)
  intro w1 hm1 ht1
  have HM1 := hide hm1
  have HT1 := hide ht1
  clear hm1 ht1
  go_wp2_with (refine wpList_ins rfl (.tmp 8) _ _ rfl HM1.out keyed3 Try.underlying63 Try.underlying4 (by unfold maxLen; omega) enc3_inj rfl (1 : Int) _ rfl (key3 1 (by omega) (by omega)) rfl ?_)
  intro w2 hm2 ht2
  have HM2 := hide hm2
  have HT2 := hide ht2
  clear hm2 ht2
  have HV := hide (bs_start (nd := s.nd) HB.out.1 HB.out.2.1 HB.out.2.2 l6 l7 HT1.out HT2.out HM2.out)
  go_wp2_with fail
  refine (below1_any k s w0 HA.out hm _ _ _ _ _ _ _ (f + 1) f [] _ (by omega) hf (Met.nil _ _) HV.out).mono ?_
  rintro e w5 ⟨rfl, V5⟩
  obtain ⟨v, e1, e2⟩ := V5.row
  have HX := hide (show ToldOut w0 s.nd bo f (.returned (.tuple #[])) w5 from ⟨rfl, v, e1, e2, V5.below⟩)
  clear V5 e1 e2 HV HT1 HT2 HM1 HM2 HMS hmm
  go_wp2_with fail
  go_end0
  exact HX.out

/-- the variables on which f hangs -/
def supL (nd : List Nd) (f : Nat) : List Int := Lib.compact (((beneath nd f).map fun x => (topOf nd x : Int)).mergeSort fun x y => decide (x ≤ y))
def SupOut (nd : List Nd) (f : Nat) (w : World) (e : Ending) (w' : World) : Prop := ∃ v, e = .returned (.tuple #[v, .int .i64 0]) ∧ w'.ownsRow w.heap.size 3 1 v (supL nd f).length ((supL nd f).map encI) ∧ Below w.heap.size w w'
theorem own_grow {w : World} {base size n : Nat} {e : TypeId} {v : Value} {xs : List Value} {os : Array Obj} (h : w.ownsRow base e size v n xs) : (Sort.grow w os).ownsRow base e size v n xs := by
  refine ⟨h.1, ?_⟩
  rcases h.2 with h2 | ⟨g, cap, cur, h1, h2, h3, h4⟩
  · exact .inl h2
  · refine .inr ⟨g, cap, cur, h1, h2, ?_, h4⟩
    show (w.heap ++ os)[g]? = _
    rw [Array.getElem?_append_left (lt_heap h3)]
    exact h3
theorem encI_eq : encI = Value.int .i64 := rfl
theorem compact_len (zs : List Int) : (Lib.compact zs).length ≤ zs.length := by
  show (Lib.compactUpTo _ _).length ≤ _
  unfold Lib.compactUpTo
  rw [List.length_map]
  refine Nat.le_trans (List.length_filter_le _ _) ?_
  simp
set_option maxHeartbeats 1000000 in
set_option maxRecDepth 100000 in
theorem Support_any (k : Blk) (s : St) (f : Nat) (w : World) (hA : Ar w k s) (g1 : s.gi f = true) (hf : f < s.nd.length) (hm : s.m + 2 ≤ 1000000000) :
    Calls Try.prog 27 #[.pointer (some ⟨k.p, 0, none⟩), .int .i64 f] w (SupOut s.nd f w) := by
  have hW := hA.wf
  have hnm := hA.nm
  have hb1 := bel_one w (.cells #[.pointer (some ⟨k.p, 0, none⟩)] 24)
  have x0 := heap_new w (.cells #[.pointer (some ⟨k.p, 0, none⟩)] 24)
  obtain ⟨W, hWd⟩ : ∃ W, W = (w.alloc (.cells #[.pointer (some ⟨k.p, 0, none⟩)] 24)) := ⟨_, rfl⟩
  rw [← hWd] at hb1 x0
  have hsW : W.heap.size = w.heap.size + 1 := by rw [hWd]; simp
  have hbl := below_wide hb1 (bel_one W (.cells #[.int .i64 f] 3))
  have HC := hide (check_any k s [(f : Int)] W.heap.size _ (hA.below hbl) (cells1 W f) (by simp; omega) (by simp))
  rw [show [(f : Int)].length = 1 from rfl, gvn_all (s := s) (l := [(f : Int)]) (by simp [g1]), hsW] at HC
  have y9 : W.cell? ⟨w.heap.size, 0, none⟩ = some (.pointer (some ⟨k.p, 0, none⟩)) := cell_heap x0 rfl
  have HX0 := hide (heap_old (p := .cells #[.int .i64 f] 3) x0)
  have hs2 : (W.alloc (.cells #[.int .i64 f] 3)).heap.size = w.heap.size + 2 := by simp [hsW]
  have hbn := heap_new (W.alloc (.cells #[.int .i64 f] 3)) (.cells #[.slice none 0 0] 37)
  rw [hs2] at hbn
  have HBE := hide (below_any k s w ((W.alloc (.cells #[.int .i64 f] 3)).alloc (.cells #[.slice none 0 0] 37)) hA hm f (w.heap.size + 1 + 1) w.heap.size hf (below_wide hbl (bel_one _ _)) hbn (heap_old HX0.out) (by omega) (Nat.le_refl _))
  have y0 : ((W.alloc (.cells #[.int .i64 f] 3)).alloc (.cells #[.slice none 0 0] 37)).cell? ⟨w.heap.size, 0, none⟩ = some (.pointer (some ⟨k.p, 0, none⟩)) := cell_heap (heap_old HX0.out) rfl
  have y1 : (W.alloc (.cells #[.int .i64 f] 3)).cell? ⟨w.heap.size, 0, none⟩ = some (.pointer (some ⟨k.p, 0, none⟩)) := cell_heap HX0.out rfl
  have HM := hide (vis_met hW (he := noH) (f + 1) [] f hf (Met.nil _ _))
  have HL := hide HM.out.len
  clear hA g1 hb1 x0 hsW hbl hbn hs2
  subst hWd
  go_enter Try.func27, Try.ntmps27
  go_wp2_with fail
  refine HC.out.mono ?_
  rintro e w1 ⟨rfl, rfl⟩
  have hwr : IntKind.i32.wrap (f : Int) = f := wrap3 (by omega) (by omega)
  go_wp2_with fail
  refine HBE.out.mono ?_
  intro e w2 hh
  unfold ToldOut at hh
  obtain ⟨rfl, v, e3, hrow, hB⟩ := hh
  have hn : (beneath s.nd f).length ≤ 1000000002 := by have := HL.out; unfold beneath; omega
  have hmap : ((beneath s.nd f).map fun (x : Nat) => encI (topOf s.nd x)) = ((beneath s.nd f).map fun x => (topOf s.nd x : Int)).map encI := by rw [List.map_map]; rfl
  rw [hmap] at hrow
  obtain ⟨zs, hzs⟩ : ∃ zs, zs = (beneath s.nd f).map fun x => (topOf s.nd x : Int) := ⟨_, rfl⟩
  have hzl : (beneath s.nd f).length = zs.length := by rw [hzs]; simp
  have hsup : supL s.nd f = Lib.compact (zs.mergeSort fun x y => decide (x ≤ y)) := by unfold supL; rw [hzs]
  rw [hzl, ← hzs] at hrow
  rw [hzl] at hn
  have HSU := hide hsup
  clear HC HBE y0 y1 y9 HX0 hmap hzl hsup hzs HM HL
  rcases hrow.2 with ⟨rfl, hn0⟩ | ⟨g, cap, cur, rfl, q1, q2, q3, q4, q5, q6⟩
  · have hz0 : zs = [] := List.eq_nil_of_length_eq_zero hn0
    subst hz0
    have k1 := cell_heap (j := 0) e3 rfl
    have HS := hide (fun W => Try.slices_Sort_int_none none 0 W)
    have HK := hide (fun W => Try.slices_Compact_int_empty none 0 W)
    have HX := hide (show SupOut s.nd f w (.returned (.tuple #[Value.slice none 0 0, .int .i64 0])) w2 from by
      unfold SupOut
      rw [HSU.out]
      have e : Lib.compact (([] : List Int).mergeSort fun x y => decide (x ≤ y)) = [] := by
        have := compact_len (([] : List Int).mergeSort fun x y => decide (x ≤ y))
        exact List.eq_nil_of_length_eq_zero (by simpa using this)
      rw [e]
      exact ⟨_, rfl, ⟨rfl, .inl ⟨rfl, rfl⟩⟩, hB⟩)
    clear hrow hB e3
    go_wp2_with fail
    refine (HS.out _).mono ?_; rintro e w3 ⟨rfl, rfl⟩
    go_wp2_with fail
    refine (HK.out _).mono ?_; rintro e w4 ⟨rfl, rfl⟩
    go_wp2_with fail
    go_ret2
    exact HX.out
  · obtain ⟨g', cap', f1, f2, f3, f4, f5, f6, f7⟩ := Lib.holds_of_ownsRow hrow (by intro e; cases e)
    injection f1 with f1 _ fc
    injection f1 with f1
    injection f1 with f1
    subst f1 fc
    have HS := hide (Try.slices_Sort_int g 0 cap zs w2 f7 f3 (by omega))
    have k1 := cell_heap (j := 0) e3 rfl
    have HB := hide hB
    have HO := hide hrow
    have HE3 := hide e3
    have hs : (zs.mergeSort fun x y => decide (x ≤ y)).length = zs.length := List.length_mergeSort _
    have hgo : g ≠ w.heap.size + 1 + 1 := heap_ne q2 e3 (by decide)
    clear hB hrow f7 q2 q5 q6 e3
    go_wp2_with fail
    refine HS.out.mono ?_; rintro e w3 ⟨rfl, m, os, hw3⟩
    have hown3 : w3.ownsRow w.heap.size 3 1 (.slice (some ⟨g, 0, none⟩) zs.length cap) zs.length ((zs.mergeSort fun x y => decide (x ≤ y)).map encI) := by
      have := Lib.ownsRow_putRow (q := m) HO.out hs (Nat.le_refl zs.length)
      rw [List.take_of_length_le (by omega)] at this
      rw [hw3]
      exact own_grow this
    have hb3 : Below w.heap.size w w3 := by
      rw [hw3]
      exact (Lib.below_putRow HB.out f2).trans ((Lib.below_grow _ _ (Nat.le_refl _) 0 os).mono (by
        have := HB.out.size
        simpa [Sort.putRow, Sort.mapBlock, Sort.ahead] using this))
    have hg3 : w2.grownBy w3 (some g) := by rw [hw3]; exact Go.grownBy_sortedI _
    have e33 := heap_grown HE3.out hg3 (opt_ne hgo)
    obtain ⟨_, _, r1, r2, r3, r4, r5, r6, r7⟩ := Lib.holds_of_ownsRow hown3 (by intro e; cases e)
    injection r1 with r1 _ rc
    injection r1 with r1
    injection r1 with r1
    subst r1 rc
    have HK := Try.slices_Compact_int g 0 cap _ w3 r7 (by rw [hs]; omega) (by rw [hs]; omega)
    rw [hs] at HK
    have HK2 := hide HK
    have HO2 := hide hown3
    have HB2 := hide hb3
    have k2 := cell_heap (j := 0) e33 rfl
    clear HK hown3 hb3 hw3 r7 hg3 e33
    go_wp2_with fail
    refine HK2.out.mono ?_; rintro e w4 ⟨rfl, q, hw4⟩
    have HW4 := hide hw4
    have hlen := compact_len (zs.mergeSort fun x y => decide (x ≤ y))
    rw [hs] at hlen
    have HX := hide (show SupOut s.nd f w (.returned (.tuple #[Value.slice (some ⟨g, 0, none⟩) (Lib.compact (zs.mergeSort fun x y => decide (x ≤ y))).length cap, .int .i64 0])) w4 from by
      unfold SupOut
      rw [HSU.out]
      refine ⟨_, rfl, ?_, ?_⟩
      · have := Lib.ownsRow_putRow (q := q) (ys := Lib.compact (zs.mergeSort fun x y => decide (x ≤ y)) ++ List.replicate (zs.length - (Lib.compact (zs.mergeSort fun x y => decide (x ≤ y))).length) 0) HO2.out (by simp; omega) hlen
        rw [HW4.out]
        rw [encI_eq] at this ⊢
        simpa using this
      · rw [HW4.out]
        exact Lib.below_putRow HB2.out f2)
    clear hw4
    go_wp2_with fail
    go_ret2
    exact HX.out
end Go.Proofs.Ytgfjdkkfgclhjaa.Bd
