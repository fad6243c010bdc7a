/- give: an answer is handed out, if there is room. -/
import Derived.Test.YtgfjdkkfgclhjaaBI
import Derived.Test.YtgfjdkkfgclhjaaBF
import Derived.Laws.EntriesVeiled
namespace Go.Proofs.Ytgfjdkkfgclhjaa.Bd
open Go.RowKit Go.Proofs.Ytgfjdkkfgclhjaa Go.Proofs.Ytgfjdkkfgclhjaa.Lx Go.Maps

/-- the nodes beneath f that are not held yet -/
def fresh (s : St) (f : Nat) : List Nat := vis s.nd s.he (f + 1) [] f
def St.hold (s : St) (fr : List Nat) : St := { s with he := fun x => decide (0 ≤ x ∧ x.toNat ∈ fr) || s.he x, hn := s.hn + fr.length }
def St.give (s : St) (f : Nat) : St := { s.hold (fresh s f) with gi := fun x => decide (x = (f : Int)) || s.gi x, gn := s.gn + 1 }
def GiveOut (k : Blk) (s : St) (f : Nat) (w : World) (e : Ending) (w' : World) : Prop :=
  (s.ms < s.hn + (fresh s f).length ∧ e = .returned (.tuple #[.int .i64 0, .int .i64 3]) ∧ Ar w' k s ∧ Turn k k w w') ∨
  (s.hn + (fresh s f).length ≤ s.ms ∧ e = .returned (.tuple #[.int .i64 f, .int .i64 0]) ∧ Ar w' k (s.give f) ∧ Turn k k w w')
theorem hold_step {s : St} {fr : List Nat} {i x : Nat} (hx : fr[i]? = some x) : (fun y : Int => decide (y = (x : Int)) || (s.hold (fr.take i)).he y) = (s.hold (fr.take (i + 1))).he := by
  funext y
  unfold St.hold
  simp only
  rw [← Bool.or_assoc, ← Bool.decide_or]
  congr 2
  rw [List.take_add_one, hx]
  simp only [Option.toList_some, List.mem_append, List.mem_singleton, eq_iff_iff]
  constructor
  · rintro (h | ⟨h1, h2⟩)
    · subst h; exact ⟨by omega, .inr (by omega)⟩
    · exact ⟨h1, .inl h2⟩
  · rintro ⟨h1, h2 | h2⟩
    · exact .inr ⟨h1, h2⟩
    · left; omega
theorem hold_zero (s : St) : s.hold [] = s := by
  unfold St.hold
  have : (fun x : Int => decide (0 ≤ x ∧ x.toNat ∈ ([] : List Nat)) || s.he x) = s.he := by funext x; simp
  rw [this]
  rfl
theorem hold_new {s : St} {fr : List Nat} {i x : Nat} (hm : Met s.nd s.he fr) (hx : fr[i]? = some x) : (s.hold (fr.take i)).he x = false := by
  unfold St.hold
  simp only [Bool.or_eq_false_iff, decide_eq_false_iff_not, not_and]
  refine ⟨fun _ hin => ?_, (hm.all x (List.mem_of_getElem? hx)).2.2⟩
  simp only [Int.toNat_natCast] at hin
  obtain ⟨j, hj⟩ := List.mem_iff_getElem?.1 hin
  have hji : j < i := by
    rcases Nat.lt_or_ge j i with h | h
    · exact h
    · rw [List.getElem?_take, if_neg (by omega)] at hj; cases hj
  rw [List.getElem?_take, if_pos hji] at hj
  have hi := lt_of_some hx
  have := (List.pairwise_iff_getElem.1 hm.nodup) j i (by omega) hi hji
  rw [List.getElem?_eq_getElem (by omega)] at hj
  rw [List.getElem?_eq_getElem hi] at hx
  exact this (Option.some.inj (hj.trans hx.symm))
theorem hold_succ {s : St} {fr : List Nat} {i x : Nat} (hx : fr[i]? = some x) : { s.hold (fr.take i) with he := fun y : Int => decide (y = (x : Int)) || (s.hold (fr.take i)).he y, hn := (s.hold (fr.take i)).hn + 1 } = s.hold (fr.take (i + 1)) := by
  rw [hold_step hx]
  have hi := lt_of_some hx
  unfold St.hold
  simp only [List.length_take]
  congr 1
  omega
theorem Inv.hold {s : St} {fb ft : Nd → Option Int} (I : Inv s fb ft) {f : Nat} (hf : f < s.nd.length) : Inv (s.give f) fb ft := by
  refine ⟨I.by_, I.it, I.wf, I.nm, fun x hx => ?_⟩
  simp only [St.give, St.hold, Bool.or_eq_true, decide_eq_true_eq] at hx
  rcases hx with rfl | hx
  · exact ⟨f, rfl, hf⟩
  · exact I.gi x hx
theorem seen_start : (fun x : Int => decide (x = 1) || (decide (x = 0) || false)) = seenB [] := by
  funext x
  unfold seenB
  rw [Bool.or_false, ← Bool.decide_or]
  congr 1
  simp only [List.not_mem_nil, or_false, eq_iff_iff]
  omega

theorem vs_start {w w1 w2 : World} {p : Nat} (ht1 : World.mapTurned (((w.alloc (.cells #[.pointer (some ⟨p, 0, none⟩)] 24)).alloc (.cells #[.slice none 0 0] 73)).alloc (.map #[] 0)) w1 (w.heap.size + 2)) (ht2 : w1.mapTurned w2 (w.heap.size + 2))
    (hm : MSet Try.prog w2 21 4 (w.heap.size + 2) 2 2 enc3 fun x => decide (x = 1) || decide (x = 0)) :
    Vs w ((w2.alloc (.cells #[.map (some (w.heap.size + 2))] 63)).alloc (.cells #[(.func (.func 55) #[] #[.pointer (some ⟨w2.heap.size, 0, none⟩), .pointer (some ⟨w.heap.size, 0, none⟩), .pointer (some ⟨w.heap.size + 1, 0, none⟩), .pointer (some ⟨w2.heap.size + 1, 0, none⟩)])] 87))
      p w2.heap.size w.heap.size (w.heap.size + 1) (w2.heap.size + 1) (w.heap.size + 2) [] := by
  have hg := (ht1.trans ht2).grown
  have hs := hg.size
  simp only [World.size_alloc] at hs
  have c2 : w2.heap[w.heap.size]? = some (.cells #[.pointer (some ⟨p, 0, none⟩)] 24 (0, 0)) := heap_grown (heap_old (heap_old (heap_new _ _))) hg (opt_ne (by omega))
  have c3 : w2.heap[w.heap.size + 1]? = some (.cells #[.slice none 0 0] 73 (0, 0)) := by
    have := heap_new (w.alloc (.cells #[.pointer (some ⟨p, 0, none⟩)] 24)) (.cells #[.slice none 0 0] 73)
    rw [show (w.alloc (.cells #[.pointer (some ⟨p, 0, none⟩)] 24)).heap.size = w.heap.size + 1 by simp] at this
    exact heap_grown (heap_old this) hg (opt_ne (by omega))
  have hb : Below w.heap.size w w2 := ((((Below.refl _ w).alloc (Nat.le_refl _) _).alloc (by simp) _).alloc (by simp; omega) _).grown hg (by simp; omega) (fun b e => by injection e with e; omega)
  have c1 : (w2.alloc (.cells #[.map (some (w.heap.size + 2))] 63)).heap[w2.heap.size]? = some (.cells #[.map (some (w.heap.size + 2))] 63 (0, 0)) := heap_new _ _
  have c4 : ((w2.alloc (.cells #[.map (some (w.heap.size + 2))] 63)).alloc (.cells #[(.func (.func 55) #[] #[.pointer (some ⟨w2.heap.size, 0, none⟩), .pointer (some ⟨w.heap.size, 0, none⟩), .pointer (some ⟨w.heap.size + 1, 0, none⟩), .pointer (some ⟨w2.heap.size + 1, 0, none⟩)])] 87)).heap[w2.heap.size + 1]? = some (.cells #[(.func (.func 55) #[] #[.pointer (some ⟨w2.heap.size, 0, none⟩), .pointer (some ⟨w.heap.size, 0, none⟩), .pointer (some ⟨w.heap.size + 1, 0, none⟩), .pointer (some ⟨w2.heap.size + 1, 0, none⟩)])] 87 (0, 0)) := by
    have := heap_new (w2.alloc (.cells #[.map (some (w.heap.size + 2))] 63)) (.cells #[(.func (.func 55) #[] #[.pointer (some ⟨w2.heap.size, 0, none⟩), .pointer (some ⟨w.heap.size, 0, none⟩), .pointer (some ⟨w.heap.size + 1, 0, none⟩), .pointer (some ⟨w2.heap.size + 1, 0, none⟩)])] 87)
    rw [show (w2.alloc (.cells #[.map (some (w.heap.size + 2))] 63)).heap.size = w2.heap.size + 1 by simp] at this
    exact this
  refine ⟨heap_old c1, heap_old (heap_old c2), c4, ?_, ⟨.slice none 0 0, heap_old (heap_old c3), ⟨rfl, .inl ⟨rfl, rfl⟩⟩⟩, ?_, by omega, by omega, by omega, by omega, by omega⟩
  · have e : (fun x : Int => decide (x = 1) || decide (x = 0)) = seenB [] := by rw [← seen_start]; funext x; simp
    rw [e] at hm
    exact (hm.kept (World.grownBy_alloc _ _ none) (by simp)).kept (World.grownBy_alloc _ _ none) (by simp)
  · exact (hb.alloc (by omega) _).alloc (by simp; omega) _

set_option maxHeartbeats 4000000 in
set_option maxRecDepth 100000 in
theorem give_any (k : Blk) (s : St) (f : Nat) (w : World) (hA : Ar w k s) (hf : f < s.nd.length) (hm : s.m + 2 ≤ 1000000000) (hms : s.ms ≤ 4194304) (hgn : s.gn ≤ 1000000000) (hhn : s.hn ≤ 4194304) :
    Calls Try.prog 37 #[.pointer (some ⟨k.p, 0, none⟩), .int .i32 f] w (GiveOut k s f w) := by
  have HA := hide hA
  obtain ⟨fb, ft, H, I⟩ := hA
  have hW := I.wf
  have hnm := I.nm
  have HM := hide (vis_met hW (f + 1) [] f hf (Met.nil s.nd s.he))
  have HMS := hide (MSet.made (P := Try.prog) ((w.alloc (.cells #[.pointer (some ⟨k.p, 0, none⟩)] 24)).alloc (.cells #[.slice none 0 0] 73)) 21 4 enc3)
  have hsz : ((w.alloc (.cells #[.pointer (some ⟨k.p, 0, none⟩)] 24)).alloc (.cells #[.slice none 0 0] 73)).heap.size = w.heap.size + 2 := by simp
  rw [hsz] at HMS
  have hmm := @run_makeMap Try.prog
  go_enter Try.func37, Try.ntmps37
  go_wp2_with (refine wpList_ins rfl (.tmp 11) _ _ rfl HMS.out keyed3 Try.underlying63 Try.underlying4 (by unfold maxLen; omega) enc3_inj rfl (0 : Int) _ rfl (key3 0 (by omega) (by omega)) rfl ?_)
  intro w1 hm1 ht1
  have HM1 := hide hm1
  have HT1 := hide ht1
  clear hm1 ht1
  go_wp2_with (refine wpList_ins rfl (.tmp 11) _ _ rfl HM1.out keyed3 Try.underlying63 Try.underlying4 (by unfold maxLen; omega) enc3_inj rfl (1 : Int) _ rfl (key3 1 (by omega) (by omega)) rfl ?_)
  intro w2 hm2 ht2
  have HM2 := hide hm2
  have HT2 := hide ht2
  clear hm2 ht2
  have HV := hide (vs_start HT1.out HT2.out HM2.out)
  go_wp2_with fail
  refine (visit_any k s w HA.out (by omega) _ _ _ _ _ (f + 1) f [] _ (by omega) hf (Met.nil _ _) HV.out).mono ?_
  rintro e w5 ⟨rfl, V5⟩
  have HV5 := hide V5
  have HSZ := hide HV.out.below.size
  clear V5 HV HT1 HT2 HM1 HM2 HMS hsz hmm
  generalize hfr : vis s.nd s.he (f + 1) [] f = fr at *
  have hfr2 : fresh s f = fr := hfr
  go_wp2_with fail
  have H5 := H.below HV5.out.below
  obtain ⟨vr, e3, hrow⟩ := HV5.out.row
  obtain ⟨A, C, rfl⟩ := own_slice hrow
  have u0 : ∀ x, (lat w5 x).cell? ⟨w.heap.size, 0, none⟩ = some (.pointer (some ⟨k.p, 0, none⟩)) := lat_cell (cell_heap HV5.out.c2 rfl)
  have u3 : ∀ x, (lat w5 x).cell? ⟨w.heap.size + 1, 0, none⟩ = some (.slice A fr.length C) := lat_cell (cell_heap e3 rfl)
  have u6 := lat_cell H5.c6
  have u1 := lat_cell H5.c1
  have ul : ∀ x ty, (Builtin.len_ #[63] ty #[.map (some k.he)]).run Try.prog (lat w5 x) = .ok (.int .i64 s.hn) (lat w5 x) := fun x ty => (H5.below (lat_below w5 x)).he.len Try.underlying63 ty
  have hfl := HM.out.len
  have HR := hide hrow
  have HE3 := hide e3
  have HH := hide H
  have HI := hide I
  have HH5 := hide H5
  clear hrow e3 H H5 I
  have hlen : fr.length ≤ 1000000000 := by omega
  rcases Nat.lt_or_ge s.ms (s.hn + fr.length) with hlt | hge
  · have d1 : decide ((s.ms : Int) < (s.hn : Int) + fr.length) = true := by simp; omega
    refine wp_region_lat (by kernel_rfl) (by kernel_rfl) ?_
    repeat (first | go_big_quiet_step ((fail)) | quiet_step ((fail)))
    refine wpQuiet_nil ?_
    intro _ hlat
    obtain ⟨wq, rfl⟩ := hlat
    go_wp2_with fail
    go_ret2
    exact .inl ⟨by rw [hfr2]; exact hlt, rfl, HA.out.below (below_wide HV5.out.below (lat_below w5 wq)), Turn.below (below_wide HV5.out.below (lat_below w5 wq))⟩
  · have d1 : decide ((s.ms : Int) < (s.hn : Int) + fr.length) = false := by simp; omega
    refine wp_region_lat (by kernel_rfl) (by kernel_rfl) ?_
    repeat (first | go_big_quiet_step ((fail)) | quiet_step ((fail)))
    refine wpQuiet_nil ?_
    intro _ hlat
    obtain ⟨wq, rfl⟩ := hlat
    have x2 := hide (heapB (lat_below w5 wq) HV5.out.c2)
    have x3 := hide (heapB (lat_below w5 wq) HE3.out)
    have xr := hide (own_below HR.out (lat_below w5 wq))
    have xh := hide (HH5.out.below (lat_below w5 wq))
    have xb := hide (below_wide HV5.out.below (lat_below w5 wq))
    clear u0 u3 u6 u1 ul HV5 HE3 HR HH5
    generalize lat w5 wq = w6 at *
    have u3 : w6.cell? ⟨w.heap.size + 1, 0, none⟩ = some (.slice A fr.length C) := cell_heap x3.out rfl
    have HN := hide hnm
    go_wp2_with fail
    go_loopw [10, 32] (fun _ j wr => ∃ i : Nat, j = .int .i64 i ∧ i ≤ fr.length ∧ Hp wr k (s.hold (fr.take i)) fb ft ∧ Turn k k w wr ∧ wr.heap[w.heap.size]? = some (.cells #[.pointer (some ⟨k.p, 0, none⟩)] 24 (0, 0)) ∧ wr.ownsRow w.heap.size 21 1 (.slice A fr.length C) fr.length (fr.map fun (x : Nat) => enc3 x)) (fun _ j _ => fr.length - (intOf j).toNat)
    case atStart => exact ⟨0, rfl, Nat.zero_le _, by rw [List.take_zero, hold_zero]; exact xh.out, Turn.below xb.out, x2.out, xr.out⟩
    case round =>
      obtain ⟨i, rfl, hi, hHp, hT, hbx, hrow⟩ := hrel
      rcases Nat.lt_or_ge i fr.length with hlt | hge2
      · obtain ⟨x, hx⟩ : ∃ x, fr[i]? = some x := ⟨_, List.getElem?_eq_getElem hlt⟩
        have d2 : decide (i < fr.length) = true := by simpa using hlt
        have d3 : (i : Int) < fr.length := by omega
        obtain ⟨g, rfl⟩ : ∃ g, A = some ⟨g, 0, none⟩ := by
          rcases hrow.2 with ⟨h1, h2⟩ | ⟨g, cap, cur, h1, _⟩
          · omega
          · injection h1 with h1 _ _; exact ⟨g, h1⟩
        have hc : wr.cell? ⟨g, i, none⟩ = some (.int .i32 x) := by
          rw [hrow.cellAt i (by omega), List.getElem?_map, hx]; rfl
        have hbc := cell_heap (j := 0) hbx rfl
        have hc6 := hHp.c6
        have hxl := HM.out.all x (List.mem_of_getElem? hx)
        have hxn := HN.out
        have hnew := hold_new HM.out hx
        have hk3 := key3 (x : Int) (by omega) (by omega)
        have hmx : (s.hold (fr.take i)).hn < maxLen := by
          unfold St.hold maxLen
          simp only [List.length_take]
          omega
        have HHp := hide hHp
        have HTT := hide hT
        have HBX := hide hbx
        have HRW := hide hrow
        clear hHp hT hbx hrow hxl hxn
        go_wp2_with (at_mapUpdate; go_must (refine wpList_add rfl (.tmp 39) (.tmp 40) _ rfl HHp.out.he keyed3 Try.underlying63 Try.underlying4 hmx enc3_inj rfl (x : Int) _ rfl hk3 rfl ?_))
        intro w7 hm7 ht7
        obtain ⟨H7, T7⟩ := HHp.out.hePut hm7 ht7
        rw [hold_succ hx] at H7
        have HH7 := hide H7
        have HT7 := hide (HTT.out.trans T7)
        have HB7 := hide (heap_grown HBX.out ht7.grown (opt_ne (fun e => by have := HH.out.lt k.he (by simp [fp]); omega)))
        have HR7 := hide (own_kept HRW.out ht7.grown (fun g' e1 e2 => by
          injection e1 with e1
          have := HH.out.lt k.he (by simp [fp])
          have := (HRW.out.lt _ e2).1
          omega))
        clear hm7 ht7 H7 T7
        go_wp2_with fail
        go_roundw
        case rel => exact ⟨i + 1, by go_num, by omega, HH7.out, HT7.out, HB7.out, HR7.out⟩
        case measure => simp [intOf]; omega
      · have e : i = fr.length := by omega
        have d2 : decide (i < fr.length) = false := by simp; omega
        subst e
        rw [List.take_length] at hHp
        obtain ⟨N, HG⟩ := hHp.gi
        have hbc := cell_heap (j := 0) hbx rfl
        have hc5 := hHp.c5
        have hxn := HN.out
        have hkI := keyI (f : Int) (by omega) (by omega)
        have hmx : (s.hold fr).gn < maxLen := by
          unfold St.hold maxLen
          simp only
          omega
        have HHp := hide hHp
        have HTT := hide hT
        clear hHp hT hbx hrow hxn
        cases hgf : (s.hold fr).gi (f : Int)
        all_goals (
          go_wp2_with (at_mapUpdate; go_must (refine wpList_add rfl (.tmp 45) (.tmp 47) _ rfl HG keyedI Try.underlying62 Try.underlying4 hmx encI_inj rfl (f : Int) _ rfl hkI rfl ?_))
          intro w8 hm8 ht8
          obtain ⟨H8, T8⟩ := HHp.out.giPut hm8 ht8
          have HX := hide (show GiveOut k s f w (.returned (.tuple #[.int .i64 f, .int .i64 0])) w8 from
            .inr ⟨by rw [hfr2]; exact hge, rfl, ⟨fb, ft, by unfold St.give; rw [hfr2]; exact H8, HI.out.hold hf⟩, HTT.out.trans T8⟩)
          clear hm8 ht8 H8 T8 HG
          go_wp2_with fail
          go_ret2
          exact HX.out)
end Go.Proofs.Ytgfjdkkfgclhjaa.Bd
