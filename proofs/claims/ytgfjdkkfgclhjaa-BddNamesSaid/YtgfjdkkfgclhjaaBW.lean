/- Rename. -/
import Derived.Test.YtgfjdkkfgclhjaaBV
namespace Go.Proofs.Ytgfjdkkfgclhjaa.Bd
open Go.RowKit Go.Proofs.Ytgfjdkkfgclhjaa Go.Proofs.Ytgfjdkkfgclhjaa.Lx Go.Maps

theorem zip_get {l1 l2 : List Nat} {i x y : Nat} (h1 : l1[i]? = some x) (h2 : l2[i]? = some y) : (l1.zip l2)[i]? = some (x, y) := by
  rw [List.getElem?_zip_eq_some]
  exact ⟨h1, h2⟩
theorem zip_take_first {l1 l2 : List Nat} (hn : l1.Nodup) {i x : Nat} (hx : l1[i]? = some x) : ∀ p ∈ (l1.zip l2).take i, p.1 ≠ x := by
  intro p hp e
  obtain ⟨j, hj⟩ := List.mem_iff_getElem?.1 hp
  have hji : j < i := by
    rcases Nat.lt_or_ge j i with h | h
    · exact h
    · rw [List.getElem?_take, if_neg (by omega)] at hj; cases hj
  rw [List.getElem?_take, if_pos hji] at hj
  have h1 := (List.getElem?_zip_eq_some.1 hj).1
  have hi := lt_of_some hx
  have := (List.pairwise_iff_getElem.1 hn) j i (by omega) hi hji
  rw [List.getElem?_eq_getElem (by omega)] at h1
  rw [List.getElem?_eq_getElem hi] at hx
  have a := Option.some.inj h1
  have b := Option.some.inj hx
  omega
theorem into_next {l1 l2 : List Nat} {i x y : Nat} (h1 : l1[i]? = some x) (h2 : l2[i]? = some y) : (fun z : Int => if z = (x : Int) then some (y : Int) else intoF ((l1.zip l2).take i) z) = intoF ((l1.zip l2).take (i + 1)) := by
  rw [List.take_add_one, zip_get h1 h2]
  exact (intoF_snoc _ (x, y)).symm

/-- what the loop keeps: the new names so far -/
structure Rn (w3 wr : World) (ps : List (Nat × Nat)) (i : Nat) : Prop where
  b : Below w3.heap.size w3 wr
  c : wr.heap[w3.heap.size + 1]? = some (.cells #[.map (some w3.heap.size)] 79 (0, 0))
  m : MInt Try.prog wr 21 21 .i32 w3.heap.size i enc3 (intoF (ps.take i))
theorem rn_start (w3 : World) (ps : List (Nat × Nat)) : Rn w3 ((w3.alloc (.map #[] 0)).alloc (.cells #[.map (some w3.heap.size)] 79)) ps 0 := by
  refine ⟨((Below.refl _ w3).alloc (Nat.le_refl _) _).alloc (by simp) _, ?_, ?_⟩
  · have := heap_new (w3.alloc (.map #[] 0)) (.cells #[.map (some w3.heap.size)] 79)
    rw [show (w3.alloc (.map #[] 0)).heap.size = w3.heap.size + 1 by simp] at this
    exact this
  · rw [List.take_zero]
    exact (MInt.made w3 21 21 .i32 enc3).kept (World.grownBy_alloc _ _ none) (by simp)
theorem Rn.next {w3 wr w' : World} {l1 l2 : List Nat} {i x y : Nat} (h : Rn w3 wr (l1.zip l2) i) (h1 : l1[i]? = some x) (h2 : l2[i]? = some y) (hm : MInt Try.prog w' 21 21 .i32 w3.heap.size (i + 1) enc3 (fun z : Int => if z = (x : Int) then some (y : Int) else intoF ((l1.zip l2).take i) z)) (ht : wr.mapTurned w' w3.heap.size) : Rn w3 w' (l1.zip l2) (i + 1) := by
  refine ⟨h.b.grown ht.grown h.b.size (fun b e => by injection e with e; omega), heap_grown h.c ht.grown (opt_ne (by omega)), ?_⟩
  rw [← into_next h1 h2]
  exact hm
set_option maxHeartbeats 8000000 in
set_option maxRecDepth 100000 in
theorem Rename_any (S : Nat → Bool) (k : Blk) (s : St) (f t : Nat) (F : Env → Bool) (A1 A2 : Option Addr) (c1 c2 : Nat) (l1 l2 : List Nat) (w : World) (hA : Ar w k s) (ad : Adm s) (g1 : s.gi f = true) (d : Den S s.nd f t F) (hS1 : Src w A1 l1.length c1 1 ((encL l1).map encI)) (hS2 : Src w A2 l2.length c2 1 ((encL l2).map encI)) (hn : l1.length ≤ 1000000) (he : l1.length = l2.length) (hnd : l1.Nodup) (hl1 : ∀ x ∈ l1, x < s.vs) (hl2 : ∀ x ∈ l2, x < s.vs) (hm : s.m + nS S t * 2 ^ (nS S t + 2) + 2 ≤ 1000000000) :
    Calls Try.prog 16 #[.pointer (some ⟨k.p, 0, none⟩), .int .i64 f, .slice A1 l1.length c1, .slice A2 l2.length c2] w (ApiOut k s w (nS S t * 2 ^ (nS S t + 2) + 2) (fun nd' r => ∃ t', anyB t t' ∧ Den (imgS S (rnOf (l1.zip l2)) t) nd' r t' (renT (rnOf (l1.zip l2)) F))) := by
  have hW := hA.wf
  have hnm := hA.nm
  have hfl := d.lt hW
  have hvs := ad.vs
  have HF : Hid (∀ j, w.heap.size ≤ j → ¬ fp k j) := by
    obtain ⟨_, _, H, _⟩ := hA
    exact fun j hj hf => by have := H.lt j hf; omega
  have hb1 := bel_one w (.cells #[.pointer (some ⟨k.p, 0, none⟩)] 24)
  have x0 := heap_new w (.cells #[.pointer (some ⟨k.p, 0, none⟩)] 24)
  obtain ⟨W, hWd⟩ : ∃ W, W = (w.alloc (.cells #[.pointer (some ⟨k.p, 0, none⟩)] 24)) := ⟨_, rfl⟩
  rw [← hWd] at hb1 x0
  have hsW : W.heap.size = w.heap.size + 1 := by rw [hWd]; simp
  have hbl := below_wide hb1 (bel_one W (.cells #[.int .i64 f] 3))
  have HC := hide (check_any k s [(f : Int)] W.heap.size _ (hA.below hbl) (cells1 W f) (by simp; omega) (by simp))
  rw [show [(f : Int)].length = 1 from rfl, gvn_all (s := s) (l := [(f : Int)]) (by simp [g1]), hsW] at HC
  have HK1 := hide (known_any k s A1 c1 (encL l1) _ (hA.below hbl) (by rw [encL_len]; exact hS1.below hbl) (by rw [encL_len]; unfold maxLen; omega))
  rw [encL_len, knownB_of hl1] at HK1
  have HK2 := hide (fun w' (hb : Below w.heap.size w w') => known_any k s A2 c2 (encL l2) w' (hA.below hb) (by rw [encL_len]; exact hS2.below hb) (by rw [encL_len]; unfold maxLen; omega))
  rw [encL_len, knownB_of hl2] at HK2
  have y0 : (W.alloc (.cells #[.int .i64 f] 3)).cell? ⟨w.heap.size, 0, none⟩ = some (.pointer (some ⟨k.p, 0, none⟩)) := cell_heap (heap_old x0) rfl
  have y9 : W.cell? ⟨w.heap.size, 0, none⟩ = some (.pointer (some ⟨k.p, 0, none⟩)) := cell_heap x0 rfl
  have HX0 := hide (heap_old (p := .cells #[.int .i64 f] 3) x0)
  have hne : ((l1.length : Int) != l2.length) = false := by rw [he]; simp
  have HBL := hide hbl
  have HA := hide hA
  have HD := hide d
  have HAD := hide ad
  have HS1 := hide hS1
  have HS2 := hide hS2
  have HL1 := hide hl1
  have HL2 := hide hl2
  have HN := hide hnd
  have HE := hide he
  have hn2 : l2.length ≤ 1000000 := by omega
  generalize hR : nS S t * 2 ^ (nS S t + 2) + 2 = R at *
  have HR := hide hR
  have hmm := @run_makeMap Try.prog
  clear hA g1 d hbl ad hb1 x0 hsW hR hS1 hS2 hl1 hl2 hnd he
  subst hWd
  go_enter Try.func16, Try.ntmps16
  go_wp2_with fail
  refine HC.out.mono ?_
  rintro e w1 ⟨rfl, rfl⟩
  go_wp2_with fail
  refine HK1.out.mono ?_
  rintro e w2 ⟨rfl, hb⟩
  have z0 := hide (heapB hb HX0.out)
  have HB2 := hide (below_wide HBL.out hb)
  have y2 : w2.cell? ⟨w.heap.size, 0, none⟩ = some (.pointer (some ⟨k.p, 0, none⟩)) := cell_heap z0.out rfl
  clear hb HX0 HC HK1 y0 y9
  go_wp2_with fail
  refine (HK2.out _ HB2.out).mono ?_
  rintro e w3 ⟨rfl, hb⟩
  have z3 := hide (heapB hb z0.out)
  have HB3 := hide (below_wide HB2.out hb)
  have s3 := HB3.out.size
  have y3 : w3.cell? ⟨w.heap.size, 0, none⟩ = some (.pointer (some ⟨k.p, 0, none⟩)) := cell_heap z3.out rfl
  clear hb HK2 z0 y2
  go_wp2_with fail
  have hr0 := hide (rn_start w3 (l1.zip l2))
  generalize (w3.alloc (.map #[] 0)).alloc (.cells #[.map (some w3.heap.size)] 79) = w4 at *
  go_loopw [12, 13, 14, 15, 43] (fun _ _ _ _ j wr => ∃ i : Nat, j = .int .i64 i ∧ i ≤ l1.length ∧ Rn w3 wr (l1.zip l2) i) (fun _ _ _ _ j _ => l1.length - (intOf j).toNat)
  case atStart => exact ⟨0, rfl, Nat.zero_le _, hr0.out⟩
  case round =>
    obtain ⟨i, rfl, hi, hRn⟩ := hrel
    rcases Nat.lt_or_ge i l1.length with hlt | hge
    · have hlen := HE.out
      obtain ⟨x, hx⟩ : ∃ x, l1[i]? = some x := ⟨_, List.getElem?_eq_getElem hlt⟩
      obtain ⟨y, hy⟩ : ∃ y, l2[i]? = some y := ⟨_, List.getElem?_eq_getElem (by omega)⟩
      have d1 : decide (i < l1.length) = true := by simpa using hlt
      have d2 : ((i : Int) < l1.length) := by omega
      have d3 : ((i : Int) < l2.length) := by omega
      have hxs := HL1.out x (List.mem_of_getElem? hx)
      have hys := HL2.out y (List.mem_of_getElem? hy)
      obtain ⟨ad1, rfl, hc1⟩ := src_at (Src.below HS1.out (below_wide HB3.out hRn.b)) (i := i) (x := (x : Int)) (by unfold encL; rw [List.getElem?_map, hx]; rfl)
      obtain ⟨ad2, rfl, hc2⟩ := src_at (Src.below HS2.out (below_wide HB3.out hRn.b)) (i := i) (x := (y : Int)) (by unfold encL; rw [List.getElem?_map, hy]; rfl)
      have k1 := cell_heap (j := 0) hRn.c rfl
      have hnone : intoF ((l1.zip l2).take i) x = none := intoF_none (zip_take_first HN.out hx)
      have lk : (Instr.lookup 79 (.map (some w3.heap.size)) (.int .i32 x) true).run Try.prog wr = .ok (.tuple #[.int .i32 0, .bool false]) wr := by
        have := hRn.m.look keyed3 Try.underlying79 Try.underlying21 (zero3 _) (key3 x (by omega) (by omega))
        rw [hnone] at this
        exact this
      have hwx : IntKind.i32.wrap (x : Int) = x := wrap3 (by omega) (by omega)
      have hwy : IntKind.i32.wrap (y : Int) = y := wrap3 (by omega) (by omega)
      have k1' : wr.drew.cell? ⟨w3.heap.size + 1, 0, none⟩ = some (.map (some w3.heap.size)) := k1
      have hc2' : wr.drew.cell? (ad2.add i) = some (.int .i64 y) := hc2
      have HRN := hide (show Rn w3 wr.drew (l1.zip l2) i from ⟨hRn.b.drew, hRn.c, hRn.m.kept (below_grown (Below.refl _ wr).drew none) (by simp)⟩)
      have hx3 := key3 (x : Int) (by omega) (by omega)
      have hwf : (Lit.int .i32 y).wf = true := wf3 (by omega) (by omega)
      have himax : i < maxLen := by unfold maxLen; omega
      have HXY := hide (And.intro hx hy)
      clear hRn hnone hx hy hlen
      go_wp2_with fail
      go_still_tail 8, (by kernel_rfl)
      change wpList _ _ _ _ _ wr.drew
      generalize wr.drew = w5 at *
      go_wp2_with (at_mapUpdate; go_must (refine wpList_put rfl (.tmp 56) (.tmp 58) (.tmp 63) rfl HRN.out.m keyed3 Try.underlying79 Try.underlying21 himax enc3_inj rfl (x : Int) _ rfl hx3 (y : Int) rfl hwf ?_))
      intro w6 hmi hmt
      have HR6 := hide (HRN.out.next HXY.out.1 HXY.out.2 hmi hmt)
      clear hmi hmt
      go_wp2_with fail
      go_roundw
      case rel => exact ⟨i + 1, by go_num, by omega, HR6.out⟩
      case measure => simp [intOf]; omega
    · have e : i = l1.length := by omega
      have d1 : decide (i < l1.length) = false := by simp; omega
      have hb4 := (below_wide HB3.out hRn.b).drew
      have z0' := heapB hRn.b z3.out
      have hA3 := HA.out.below hb4
      have hzl : (l1.zip l2).length = l1.length := by rw [List.length_zip, HE.out, Nat.min_self]
      have hmi := hRn.m
      rw [e, ← hzl, List.take_length] at hmi
      have k2 : wr.drew.cell? ⟨w.heap.size, 0, none⟩ = some (.pointer (some ⟨k.p, 0, none⟩)) := cell_heap z0' rfl
      have k3' : wr.drew.cell? ⟨w3.heap.size + 1, 0, none⟩ = some (.map (some w3.heap.size)) := cell_heap (j := 0) hRn.c rfl
      have hlt3 := HAD.out.vs
      have HEA := hide (each_any S (imgS S (rnOf (l1.zip l2))) anyB (renT (rnOf (l1.zip l2))) k s _ _ f t F wr.drew hA3 HD.out (rename_made S (l1.zip l2) s.nd k wr.drew (w3.heap.size + 1) w.heap.size w3.heap.size _ (fun p hp => by
        obtain ⟨j, hj⟩ := List.mem_iff_getElem?.1 hp
        have := HL2.out p.2 (List.mem_of_getElem? (List.getElem?_zip_eq_some.1 hj).2)
        omega) k3' k2 (HF.out _ (by omega)) (HF.out _ (by omega)) (HF.out _ (by omega)) (hmi.kept (below_grown (Below.refl _ wr).drew none) (by simp))) call_rename trivial rfl rfl (by have := HR.out; omega))
      rw [HR.out] at HEA
      have hmR : s.m + R ≤ 1000000000 := by have := HR.out; omega
      have HB4 := hide hb4
      have hnf := HF.out w.heap.size (by omega)
      have hlt' : w.heap.size < wr.drew.heap.size := lt_of_cell k2
      have hdd : decide ((i : Int) < l1.length) = false := by simp; omega
      clear hb4 hA3 z0' k3' hRn hmi e hzl
      have hwr : IntKind.i32.wrap (f : Int) = f := wrap3 (by omega) (by omega)
      go_wp2_with fail
      go_region_held3 (fun w' => w'.cell? ⟨w.heap.size, 0, none⟩ = some (.pointer (some ⟨k.p, 0, none⟩)))
        (first | exact k2 | exact k3 | exact k4)
        (first
          | (go_at_call 38; (with_reducible refine HEA.out.mono ?_); intro e w3 hh; unfold NodeOut at hh; obtain ⟨k1, s1, r, he, hA3, T3, U3, m3, o3⟩ := hh; subst he; have k3 := T3.cell k2 hnf; have HA3 := hide hA3; have HT3 := hide T3; have HU3 := hide U3; have HM3 := hide m3; have HO3 := hide o3; clear hA3 T3 U3 m3 o3)
          | (go_at_call 37; (with_reducible refine (give_call HA3.out HO3.out HM3.out hmR HU3.out HAD.out HT3.out.p).mono ?_); intro e w4 hg; obtain ⟨x, y, he, T4⟩ := give_two hg; subst he; have k4 := T4.cell k3 (HT3.out.fpn hlt' hnf); have HX := hide (api_call HU3.out HM3.out HO3.out ((Turn.below (k := k) HB4.out).trans HT3.out) HA3.out.wf hg); clear hg T4))
      all_goals (
        go_wp2_with fail
        go_ret2
        exact HX.out)
end Go.Proofs.Ytgfjdkkfgclhjaa.Bd
