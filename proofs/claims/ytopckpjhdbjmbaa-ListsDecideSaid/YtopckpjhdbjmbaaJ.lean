import Derived.Test.YtopckpjhdbjmbaaI
import Derived.RegionTactic
import Derived.BigRegion
namespace Go.Proofs.Ytopckpjhdbjmbaa.Ld
open Go.RowKit
theorem info44 : (Try.prog.info? 44).map (fun i => (i.zero, i.size, i.bytes)) = some (some (.agg #[.bool false, .int .u32 0, .int .i64 0, .int .i64 0, .int .i64 0]), 5, 40) := by kernel_rfl
theorem info46 : (Try.prog.info? 46).map (fun i => (i.zero, i.size, i.bytes)) = some (some (.agg #[.bool false, .slice none 0 0]), 2, 32) := by kernel_rfl
theorem info23 : (Try.prog.info? 23).map (fun i => (i.zero, i.size, i.bytes)) = some (some (.int .u32 0), 1, 4) := by kernel_rfl

def SA : ByteArray := { data := #[97] }
def SB : ByteArray := { data := #[98] }
/-- what stands at the head of each round -/
structure St (w : World) (a b : Int) (Ba Bb : Nat) (A1 : Option Addr) (n1 c1 : Nat) (A2 : Option Addr) (n2 c2 : Nat) (A3 : Option Addr) (n3 : Nat) (z : Nat → Int) (wr : World) : Prop where
  bel : Below w.heap.size w wr
  p : wr.heap[w.heap.size]? = some (.cells #[.int .u32 a, .int .i64 b] 26 (0, 0))
  a_ : wr.heap[Ba]? = some (.cells #[.string { data := #[97] }, .slice A1 n1 c1] 30 (0, 0))
  b_ : wr.heap[Bb]? = some (.cells #[.string { data := #[98] }, .slice A2 n2 c2] 32 (0, 0))
  e : ∃ f E, RowF wr w.heap.size 44 A1 n1 5 f ∧ EntF f n1 E
  m : ∃ f M, RowF wr w.heap.size 46 A2 n2 2 f ∧ MemF w f n2 M
  u : ∃ f, RowF wr w.heap.size 23 A3 n3 1 f ∧ UF f n3 z

theorem St.below {w : World} {a b : Int} {Ba Bb : Nat} {A1 : Option Addr} {n1 c1 : Nat} {A2 : Option Addr} {n2 c2 : Nat} {A3 : Option Addr} {n3 : Nat} {z : Nat → Int} {wr wx : World}
    (h : St w a b Ba Bb A1 n1 c1 A2 n2 c2 A3 n3 z wr) (hb : Below wr.heap.size wr wx) : St w a b Ba Bb A1 n1 c1 A2 n2 c2 A3 n3 z wx := by
  obtain ⟨h1, h2, h3, h4, ⟨f, E, h5, h6⟩, ⟨g, M, h7, h8⟩, ⟨q, h9, h10⟩⟩ := h
  exact ⟨below_wide h1 hb, heapB hb h2, heapB hb h3, heapB hb h4, ⟨f, E, h5.below hb, h6⟩, ⟨g, M, h7.below hb, h8⟩, ⟨q, h9.below hb, h10⟩⟩

abbrev StT (w : World) (a b : Int) (Ba Bb : Nat) (A1 : Option Addr) (n1 c1 : Nat) (A2 : Option Addr) (n2 c2 : Nat) (A3 : Option Addr) (n3 : Nat) (z : Nat → Int) (wr : World) : Prop := St w a b Ba Bb A1 n1 c1 A2 n2 c2 A3 n3 z wr
theorem St.store_e {w : World} {a b : Int} {Ba Bb : Nat} {g : Nat} {n1 c1 : Nat} {A2 : Option Addr} {n2 c2 : Nat} {A3 : Option Addr} {n3 : Nat} {z : Nat → Int} {wr : World}
    (h : St w a b Ba Bb (some ⟨g, 0, none⟩) n1 c1 A2 n2 c2 A3 n3 z wr) (hn : 0 < n1) (j : Nat) (u : Value) (hu : ∀ f E, EntF f n1 E → ∃ E', EntF (fun i => if i = j then u else f i) n1 E') : St w a b Ba Bb (some ⟨g, 0, none⟩) n1 c1 A2 n2 c2 A3 n3 z (wr.setCell ⟨g, j, none⟩ u).drew := by
  obtain ⟨h1, h2, h3, h4, ⟨f, E, h5, h6⟩, ⟨gm, M, h7, h8⟩, ⟨q, h9, h10⟩⟩ := h
  obtain ⟨g', cur, hg, hgw, hh, _⟩ := h5 hn
  injection hg with hg
  injection hg with hg
  subst hg
  obtain ⟨E', hE'⟩ := hu f E h6
  exact ⟨(h1.setCell (p := ⟨g, j, none⟩) hgw u).drew, heap_far h2 (heap_ne h2 hh (by decide)), heap_far h3 (heap_ne h3 hh (by decide)), heap_far h4 (heap_ne h4 hh (by decide)), ⟨_, E', h5.set j u, hE'⟩, ⟨gm, M, h7.far hh (by decide), h8⟩, ⟨q, h9.far hh (by decide), h10⟩⟩
theorem St.store_m {w : World} {a b : Int} {Ba Bb : Nat} {g : Nat} {A1 : Option Addr} {n1 c1 : Nat} {n2 c2 : Nat} {A3 : Option Addr} {n3 : Nat} {z : Nat → Int} {wr : World}
    (h : St w a b Ba Bb A1 n1 c1 (some ⟨g, 0, none⟩) n2 c2 A3 n3 z wr) (k : Nat) (hn : k < n2) (x : Bool) : St w a b Ba Bb A1 n1 c1 (some ⟨g, 0, none⟩) n2 c2 A3 n3 z (wr.setCell ⟨g, k * 2, none⟩ (.bool x)).drew := by
  obtain ⟨h1, h2, h3, h4, ⟨f, E, h5, h6⟩, ⟨gm, M, h7, h8⟩, ⟨q, h9, h10⟩⟩ := h
  obtain ⟨g', cur, hg, hgw, hh, _⟩ := h7 (by omega)
  injection hg with hg
  injection hg with hg
  subst hg
  exact ⟨(h1.setCell (p := ⟨g, k * 2, none⟩) hgw _).drew, heap_far h2 (heap_ne h2 hh (by decide)), heap_far h3 (heap_ne h3 hh (by decide)), heap_far h4 (heap_ne h4 hh (by decide)), ⟨f, E, h5.far hh (by decide), h6⟩, ⟨_, _, h7.set _ _, h8.set_pm k x⟩, ⟨q, h9.far hh (by decide), h10⟩⟩
theorem St.get_e {w : World} {a b : Int} {Ba Bb : Nat} {A1 : Option Addr} {n1 c1 : Nat} {A2 : Option Addr} {n2 c2 : Nat} {A3 : Option Addr} {n3 : Nat} {z : Nat → Int} {wr : World}
    (h : St w a b Ba Bb A1 n1 c1 A2 n2 c2 A3 n3 z wr) (k : Nat) (hn : k < n1) : ∃ g pm ge, A1 = some ⟨g, 0, none⟩ ∧ wr.cell? ⟨g, k * 5, none⟩ = some (.bool pm) ∧ wr.frozen? ⟨g, k * 5, none⟩ = false ∧ wr.cell? ⟨g, k * 5 + 3, none⟩ = some (.int .i64 ge) ∧ wr.frozen? ⟨g, k * 5 + 3, none⟩ = false ∧ wr.cell? ⟨Ba, 1, none⟩ = some (.slice A1 n1 c1) := by
  obtain ⟨h1, h2, h3, h4, ⟨f, E, h5, h6⟩, _, _⟩ := h
  obtain ⟨g, cur, hg, hgw, hh, hc⟩ := h5 (by omega)
  refine ⟨g, (E k).pm, (E k).ge, hg, ?_, frozen_heap hh, ?_, frozen_heap hh, cell_heap h3 rfl⟩
  · rw [← (h6 k hn).1]; exact cell_heap hh (hc _ (by omega))
  · rw [← (h6 k hn).2.2.2.1]; exact cell_heap hh (hc _ (by omega))
theorem St.get_m {w : World} {a b : Int} {Ba Bb : Nat} {A1 : Option Addr} {n1 c1 : Nat} {A2 : Option Addr} {n2 c2 : Nat} {A3 : Option Addr} {n3 : Nat} {z : Nat → Int} {wr : World}
    (h : St w a b Ba Bb A1 n1 c1 A2 n2 c2 A3 n3 z wr) (k : Nat) (hn : k < n2) : ∃ g pm, A2 = some ⟨g, 0, none⟩ ∧ wr.cell? ⟨g, k * 2, none⟩ = some (.bool pm) ∧ wr.frozen? ⟨g, k * 2, none⟩ = false ∧ wr.cell? ⟨Bb, 1, none⟩ = some (.slice A2 n2 c2) := by
  obtain ⟨h1, h2, h3, h4, _, ⟨f, M, h5, h6⟩, _⟩ := h
  obtain ⟨g, cur, hg, hgw, hh, hc⟩ := h5 (by omega)
  refine ⟨g, (M k).pm, hg, ?_, frozen_heap hh, cell_heap h4 rfl⟩
  rw [← (h6 k hn).1]; exact cell_heap hh (hc _ (by omega))

theorem src_cells {n size : Nat} {f : Nat → Value} : ∀ j, j < n * size → ([] ++ (List.range (n * size)).map f)[j]? = some (f j) := by
  intro j hj
  simp [List.getElem?_map, List.getElem?_range, hj]
theorem own_form {w : World} {base : Nat} {e : TypeId} {size : Nat} {v : Value} {n : Nat} {xs : List Value} (h : w.ownsRow base e size v n xs) : ∃ A c, v = .slice A n c := by
  rcases h.2 with ⟨rfl, rfl⟩ | ⟨g, cap, cur, rfl, _⟩
  · exact ⟨_, _, rfl⟩
  · exact ⟨_, _, rfl⟩
theorem own_empty (w : World) (base g : Nat) (e : TypeId) (size : Nat) (hb : base ≤ g) (hg : g = w.heap.size) : (w.alloc (.cells #[] e)).ownsRow base e size (.slice (some ⟨g, 0, none⟩) 0 0) 0 [] := by
  subst hg
  exact ⟨by simp, .inr ⟨w.heap.size, 0, #[], rfl, hb, heap_alloc_new w _, Nat.le_refl _, by simp [maxLen], by simp, by simp⟩⟩

theorem app_below {w w' : World} {e : TypeId} {g n c : Nat} (hg : g = w.heap.size) (h : (w.alloc (.cells #[] e)).grownBy w' (Value.ownBlock (.slice (some ⟨g, 0, none⟩) n c))) : Below w.heap.size w w' :=
  ((Below.refl w.heap.size w).alloc (Nat.le_refl _) _).grown h (by simp) (fun k hk => by simp [Value.ownBlock] at hk; omega)
theorem row_of_own {w : World} {base : Nat} {t : TypeId} {A : Option Addr} {n c size : Nat} {f : Nat → Value} (h : w.ownsRow base t size (.slice A (0 + n) c) (0 + n) ([] ++ (List.range (n * size)).map f)) : RowF w base t A n size f := by
  rw [Nat.zero_add] at h
  exact RowF.of_own h src_cells
theorem heap_new (w : World) (o : Obj) : (w.alloc o).heap[w.heap.size]? = some o := heap_alloc_new w o
theorem prefix_st {w w1 w2 w3 : World} {a b : Int} {A1 A2 A3 : Option Addr} {n1 c1 n2 c2 n3 : Nat} {f1 f2 : Nat → Value} {E : Nat → Ent} {M : Nat → Mem} {z : Nat → Int}
    (b1 : Below (w.alloc (O2 a b)).heap.size (w.alloc (O2 a b)) w1) (b2 : Below (w1.alloc (.cells #[.string { data := #[97] }, .slice A1 n1 c1] 30)).heap.size (w1.alloc (.cells #[.string { data := #[97] }, .slice A1 n1 c1] 30)) w2)
    (b3 : Below (w2.alloc (.cells #[.string { data := #[98] }, .slice A2 n2 c2] 32)).heap.size (w2.alloc (.cells #[.string { data := #[98] }, .slice A2 n2 c2] 32)) w3)
    (o1 : RowF w1 w.heap.size 44 A1 n1 5 f1) (hE : EntF f1 n1 E) (o2 : RowF w2 w.heap.size 46 A2 n2 2 f2) (hM : MemF w f2 n2 M) (o3 : RowF w3 w.heap.size 23 A3 n3 1 (fun j => .int .u32 (z j))) :
    St w a b w1.heap.size w2.heap.size A1 n1 c1 A2 n2 c2 A3 n3 z w3 := by
  have e0 := bel_one w (O2 a b)
  have e1 := bel_one w1 (.cells #[.string { data := #[97] }, .slice A1 n1 c1] 30)
  have e2 := bel_one w2 (.cells #[.string { data := #[98] }, .slice A2 n2 c2] 32)
  have d3 := below_wide e2 b3
  have d2 := below_wide e1 b2
  have d1 := below_wide b1 (below_wide d2 d3)
  exact ⟨below_wide e0 d1, heapB d1 (heap_new _ _), heapB d3 (heapB b2 (heap_new _ _)), heapB b3 (heap_new _ _), ⟨f1, E, o1.below (below_wide d2 d3), hE⟩, ⟨f2, M, o2.below d3, hM⟩, ⟨_, o3, fun i _ => rfl⟩⟩

set_option maxHeartbeats 2000000 in
set_option maxRecDepth 100000 in
theorem law_any (A1 : Option Addr) (n1 c1 : Nat) (f1 : Nat → Value) (E : Nat → Ent) (a b : Int) (A2 : Option Addr) (n2 c2 : Nat) (f2 : Nat → Value) (M : Nat → Mem) (A3 : Option Addr) (n3 c3 : Nat) (z : Nat → Int) (k : Int) (w : World)
    (ha : 0 ≤ a) (ha2 : a ≤ 4294967295) (hn1 : n1 * 40 ≤ 140737488351232) (hn2 : n2 * 32 ≤ 140737488351232) (hn3 : n3 * 4 ≤ 140737488351232)
    (h1 : Src w A1 n1 c1 5 ((List.range (n1 * 5)).map f1)) (h1o : ∀ j, j < n1 * 5 → (f1 j).oneCell' = true) (hE : EntF f1 n1 E)
    (h2 : Src w A2 n2 c2 2 ((List.range (n2 * 2)).map f2)) (h2o : ∀ j, j < n2 * 2 → (f2 j).oneCell' = true) (hM : MemF w f2 n2 M)
    (h3 : Src w A3 n3 c3 1 ((List.range (n3 * 1)).map fun j => .int .u32 (z j))) (hz : Us w A3 n3 z) :
    Calls Try.prog 3 #[.slice A1 n1 c1, .agg #[.int .u32 a, .int .i64 b], .slice A2 n2 c2, .slice A3 n3 c3, .int .i64 k] w fun e w' => e = .returned (.bool true) ∧ Below w.heap.size w w' := by
  obtain ⟨i1, hi1, iz1, is1, ib1⟩ := info_parts info44
  obtain ⟨i2, hi2, iz2, is2, ib2⟩ := info_parts info46
  obtain ⟨i3, hi3, iz3, is3, ib3⟩ := info_parts info23
  have o1 := hide (own_empty (w.alloc (O2 a b)) w.heap.size (w.heap.size + 1) 44 5 (by omega) (by simp))
  have s1 := hide (h1.below (bel_two w (O2 a b) (.cells #[] 44)))
  have k1 : Hid (∀ u ∈ (List.range (n1 * 5)).map f1, u.oneCell' = true) := by
    show ∀ u ∈ _, _ = true
    intro u hu
    obtain ⟨j, hj, rfl⟩ := List.mem_map.1 hu
    exact h1o j (List.mem_range.1 hj)
  have k2 : Hid (∀ u ∈ (List.range (n2 * 2)).map f2, u.oneCell' = true) := by
    show ∀ u ∈ _, _ = true
    intro u hu
    obtain ⟨j, hj, rfl⟩ := List.mem_map.1 hu
    exact h2o j (List.mem_range.1 hj)
  have k3 : Hid (∀ u ∈ (List.range (n3 * 1)).map (fun j => Value.int .u32 (z j)), u.oneCell' = true) := by show ∀ u ∈ _, _ = true; simp [Value.oneCell']
  have H1 := hide h1
  have H2 := hide h2
  have H3 := hide h3
  have HE := hide hE
  have HM := hide hM
  have HZ := hide hz
  clear h1 h2 h3 h1o h2o hE hM hz
  go_enter Try.func3, Try.ntmps3
  go_wp2_with (first | (at_builtin; (refine app_src rfl (.tmp 20) (.tmp 21) 22 rfl w.heap.size 44 i1 _ 5 40 Try.underlying22 hi1 iz1 is1 ib1 rfl (by decide) (.slice (some ⟨w.heap.size + 1, 0, none⟩) 0 0) 0 [] rfl o1.out A1 n1 c1 _ rfl s1.out k1.out (by unfold maxLen; omega) (by omega) (by simp; omega) ?_); intro v1 w1 ho1 hg1; obtain ⟨A1', c1', hv1⟩ := own_form ho1; subst hv1; have R1 := hide (row_of_own ho1); have B1 := hide (app_below (w := w.alloc (O2 a b)) (by simp) hg1); clear ho1 hg1 o1 s1; have o2 := hide (own_empty (w1.alloc (.cells #[.string { data := #[97] }, .slice A1' (0 + n1) c1'] 30)) w.heap.size (w1.heap.size + 1) 46 2 (by have := B1.out.size; simp at this; omega) (by simp)); have s2 := hide (H2.out.below (below_wide (below_wide (bel_one w _) B1.out) (bel_two w1 (.cells #[.string { data := #[97] }, .slice A1' (0 + n1) c1'] 30) (.cells #[] 46)))); simp only [Nat.zero_add] at o2 s2) | (at_builtin; (refine app_src rfl (.tmp 24) (.tmp 25) 27 rfl w.heap.size 46 i2 _ 2 32 Try.underlying27 hi2 iz2 is2 ib2 rfl (by decide) (.slice (some ⟨w1.heap.size + 1, 0, none⟩) 0 0) 0 [] rfl o2.out A2 n2 c2 _ rfl s2.out k2.out (by unfold maxLen; omega) (by omega) (by have := B1.out.size; simp at this; simp; omega) ?_); intro v2 w2 ho2 hg2; obtain ⟨A2', c2', hv2⟩ := own_form ho2; subst hv2; have R2 := hide (row_of_own ho2); have B2 := hide (app_below (w := w1.alloc (.cells #[.string { data := #[97] }, .slice A1' n1 c1'] 30)) (by simp) hg2); clear ho2 hg2 o2 s2; have o3 := hide (own_empty (w2.alloc (.cells #[.string { data := #[98] }, .slice A2' (0 + n2) c2'] 32)) w.heap.size (w2.heap.size + 1) 23 1 (by have := B1.out.size; have := B2.out.size; simp at *; omega) (by simp)); have s3 := hide (H3.out.below (below_wide (below_wide (bel_one w _) B1.out) (below_wide (below_wide (bel_one w1 _) B2.out) (bel_two w2 (.cells #[.string { data := #[98] }, .slice A2' (0 + n2) c2'] 32) (.cells #[] 23))))); simp only [Nat.zero_add] at o3 s3) | (at_builtin; (refine app_src rfl (.tmp 28) (.tmp 29) 28 rfl w.heap.size 23 i3 _ 1 4 Try.underlying28 hi3 iz3 is3 ib3 rfl (by decide) (.slice (some ⟨w2.heap.size + 1, 0, none⟩) 0 0) 0 [] rfl o3.out A3 n3 c3 _ rfl s3.out k3.out (by unfold maxLen; omega) (by omega) (by have := B1.out.size; have := B2.out.size; simp at *; omega) ?_); intro v3 w3 ho3 hg3; obtain ⟨A3', c3', hv3⟩ := own_form ho3; subst hv3; have R3 := hide (row_of_own ho3); have B3 := hide (app_below (w := w2.alloc (.cells #[.string { data := #[98] }, .slice A2' n2 c2'] 32)) (by simp) hg3); clear ho3 hg3 o3 s3))
  have hst := prefix_st B1.out B2.out B3.out R1.out HE.out R2.out HM.out R3.out
  have HST := hide hst
  clear hst B1 B2 B3 R1 R2 R3 HE HM H1 H2 H3 k1 k2 k3
  have L1 : n1 ≤ maxLen := by unfold maxLen; omega
  have L2 : n2 ≤ maxLen := by unfold maxLen; omega
  have L3 : n3 ≤ maxLen := by unfold maxLen; omega
  generalize w1.heap.size = Ba at *
  generalize w2.heap.size = Bb at *
  go_loopw [14] (fun j wr => ∃ q : Nat, q ≤ 2 ∧ j = .int .i64 q ∧ St w a b Ba Bb A1' n1 c1' A2' n2 c2' A3' n3 z wr) (fun j _ => 2 - (intOf j).toNat)
  case atStart => exact ⟨0, by omega, rfl, HST.out⟩
  case round =>
    clear HST
    obtain ⟨wo, rfl⟩ : ∃ wo : World, wo = wr := ⟨_, rfl⟩
    obtain ⟨q, hq, rfl, hst⟩ := hrel
    by_cases hlt : q < 2
    · have HST := hide hst
      obtain ⟨hbel, hp, ha_, hb_, ⟨f, E', hR, hEF⟩, ⟨g, M', hRM, hMF⟩, ⟨u, hRU, hUF⟩⟩ := hst
      have XE := hide (hEF.ents hR)
      have XM := hide ((hMF.below hbel).mems hRM)
      have XU := hide (hUF.us hRU)
      have XC := hide (HZ.out.below hbel)
      have p0 := cell_heap (j := 0) hp rfl
      have p1 := cell_heap (j := 1) hp rfl
      have a0 := cell_heap (j := 0) ha_ rfl
      have a1 := cell_heap (j := 1) ha_ rfl
      have b0 := cell_heap (j := 0) hb_ rfl
      have b1 := cell_heap (j := 1) hb_ rfl
      clear hR hEF hRM hMF hRU hUF hbel hp ha_ hb_
      go_wp2_with fail
      refine (entry_any _ _ _ _ E' a b _ L1 XE.out ha ha2).mono ?_; rintro e wa ⟨rfl, hba⟩
      have p0' := cellB hba p0; have p1' := cellB hba p1; have a0' := cellB hba a0; have a1' := cellB hba a1; have b0' := cellB hba b0; have b1' := cellB hba b1; clear p0 p1 a0 a1 b0 b1; have p0 := p0'; have p1 := p1'; have a0 := a0'; have a1 := a1'; have b0 := b0'; have b1 := b1'; clear p0' p1' a0' a1' b0' b1'
      unfold plc
      go_wp2_with fail
      refine (member_any _ _ _ _ z _ _ _ M' _ L3 (XU.out.below hba) L2 (XM.out.below hba)).mono ?_; rintro e wb ⟨rfl, hbb⟩
      have p0' := cellB hbb p0; have p1' := cellB hbb p1; have a0' := cellB hbb a0; have a1' := cellB hbb a1; have b0' := cellB hbb b0; have b1' := cellB hbb b1; clear p0 p1 a0 a1 b0 b1; have p0 := p0'; have p1 := p1'; have a0 := a0'; have a1 := a1'; have b0 := b0'; have b1 := b1'; clear p0' p1' a0' a1' b0' b1'
      unfold plc
      have hab := below_wide hba hbb
      have c7 := fun x => rentry_any { data := #[97] } A1' n1 c1' E' a b (lat wb x) L1 (XE.out.below (below_wide hab (lat_below _ _))) ha ha2
      have c9 := fun x => permits_any { data := #[97] } A1' n1 c1' E' a b (lat wb x) L1 (XE.out.below (below_wide hab (lat_below _ _))) ha ha2
      have c10 := fun x => rpermits_any { data := #[97] } A1' n1 c1' E' a b (lat wb x) L1 (XE.out.below (below_wide hab (lat_below _ _))) ha ha2
      have c8 := fun x => rmember_any { data := #[98] } A3 n3 c3 z A2' n2 c2' M' (lat wb x) L3 (XC.out.below (below_wide hab (lat_below _ _))) L2 (XM.out.below (below_wide hab (lat_below _ _)))
      have c11 := fun x => allows_any { data := #[98] } A3' n3 c3' z A2' n2 c2' M' (lat wb x) L3 (XU.out.below (below_wide hab (lat_below _ _))) L2 (XM.out.below (below_wide hab (lat_below _ _)))
      have c12 := fun x => rallows_any { data := #[98] } A3 n3 c3 z A2' n2 c2' M' (lat wb x) L3 (XC.out.below (below_wide hab (lat_below _ _))) L2 (XM.out.below (below_wide hab (lat_below _ _)))
      have c13 := fun x => same_true A3' n3 c3' A3 c3 z (lat wb x) L3 (XU.out.below (below_wide hab (lat_below _ _))) (XC.out.below (below_wide hab (lat_below _ _)))
      generalize pmt E' (firstI (fitE E' a b) 0 n1) = P1 at *
      generalize pmtM M' (firstI (memB z n3 M') 0 n2) = P2 at *
      generalize firstI (fitE E' a b) 0 n1 = r1 at *
      generalize firstI (memB z n3 M') 0 n2 = r2 at *
      have C7 := hide c7
      have C8 := hide c8
      have C9 := hide c9
      have C10 := hide c10
      have C11 := hide c11
      have C12 := hide c12
      have C13 := hide c13
      have HAB := hide hab
      clear c7 c8 c9 c10 c11 c12 c13 hba hbb hab
      have p0' := lat_cell p0; have p1' := lat_cell p1; have a0' := lat_cell a0; have a1' := lat_cell a1; have b0' := lat_cell b0; have b1' := lat_cell b1
      go_wp2
      refine wp_region_lat (by kernel_rfl) (by kernel_rfl) ?_
      repeat (first | go_big_quiet_step ((first | (go_at_call 7; exact calls_lat (C7.out _)) | (go_at_call 6; exact calls_lat_same (place_any _ _)) | (go_at_call 8; exact calls_lat (C8.out _)) | (go_at_call 9; exact calls_lat (C9.out _)) | (go_at_call 10; exact calls_lat (C10.out _)) | (go_at_call 11; exact calls_lat (C11.out _)) | (go_at_call 12; exact calls_lat (C12.out _)) | (go_at_call 13; exact calls_lat (C13.out _)))) | quiet_step ((first | (go_at_call 7; exact calls_lat (C7.out _)) | (go_at_call 6; exact calls_lat_same (place_any _ _)) | (go_at_call 8; exact calls_lat (C8.out _)) | (go_at_call 9; exact calls_lat (C9.out _)) | (go_at_call 10; exact calls_lat (C10.out _)) | (go_at_call 11; exact calls_lat (C11.out _)) | (go_at_call 12; exact calls_lat (C12.out _)) | (go_at_call 13; exact calls_lat (C13.out _)))))
      refine wpQuiet_nil ?_
      intro _ hlat
      obtain ⟨wq, rfl⟩ := hlat
      have hbc := lat_below wb wq
      have p0c := p0' wq; have p1c := p1' wq; have a0c := a0' wq; have a1c := a1' wq; have b0c := b0' wq; have b1c := b1' wq
      generalize lat wb wq = wc at *
      have HBC := hide (below_wide HAB.out hbc)
      clear C7 C8 C9 C10 C11 C12 C13 HAB p0' p1' a0' a1' b0' b1' p0 p1 a0 a1 b0 b1 hbc
      go_wp2
      go_loopw [19] (fun j wx => ∃ i : Nat, i ≤ n1 ∧ j = .int .i64 i ∧ Below wc.heap.size wc wx) (fun j _ => n1 - (intOf j).toNat)
      case atStart => exact ⟨0, Nat.zero_le _, rfl, Below.refl _ _⟩
      case round =>
        obtain ⟨i, hi, rfl, hbi⟩ := hrel
        by_cases hli : i < n1
        · obtain ⟨bE, off, hA1, h0, h1, h2, h3, h4, h5, h6⟩ := (XE.out.below (below_wide HBC.out hbi)) i hli
          have HA1 := hide hA1
          clear hA1
          have a1i := lat_cell (cellB hbi a1c)
          have p0i := lat_cell (cellB hbi p0c)
          have p1i := lat_cell (cellB hbi p1c)
          rw [HA1.out] at a1i
          have h0 := lat_cell h0
          have h1 := lat_cell h1
          have h2 := lat_cell h2
          have h3 := lat_cell h3
          have h4 := lat_cell h4
          have hf1 := fun x => fits_any (E' i).pm (E' i).c (E' i).d (E' i).ge (E' i).le a b (lat wr x) ha ha2 h5 h6
          have hf2 := fun x => rfits_any (E' i).pm (E' i).c (E' i).d (E' i).ge (E' i).le a b (lat wr x) ha ha2 h5 h6
          generalize fitsB (E' i).c (E' i).d (E' i).ge (E' i).le a b = F at *
          have HF1 := hide hf1
          have HF2 := hide hf2
          clear hf1 hf2 a1c p0c p1c a0c b0c b1c
          go_wp2
          refine wp_region_lat (by kernel_rfl) (by kernel_rfl) ?_
          repeat (first | go_big_quiet_step ((first | (go_at_call 14; exact calls_lat (HF1.out _)) | (go_at_call 15; exact calls_lat (HF2.out _)))) | quiet_step ((first | (go_at_call 14; exact calls_lat (HF1.out _)) | (go_at_call 15; exact calls_lat (HF2.out _)))))
          refine wpQuiet_nil ?_
          intro _ hlat
          obtain ⟨wq, rfl⟩ := hlat
          go_wp2
          go_roundw
          case rel => exact ⟨i + 1, by omega, by go_num, below_wide hbi (lat_below _ _)⟩
          case measure => simp [intOf]; omega
        · have HSI := hide ((HST.out.below HBC.out).below hbi)
          clear a1c p0c p1c a0c b0c b1c hbi HST
          by_cases hk0 : 0 ≤ k
          · obtain ⟨kn, rfl⟩ := Int.eq_ofNat_of_zero_le hk0
            by_cases hk1 : kn < n1
            · by_cases hk2 : kn < n2
              · obtain ⟨gE, pm0, ge0, hA1, e0, f0, e3, f3, a1i⟩ := HSI.out.get_e kn hk1
                subst hA1
                clear e3 f3
                go_wp2
                go_region
                have hs2 := HSI.out.store_e (by omega) (kn * 5) (.bool !pm0) (fun f E hE => ⟨_, hE.set_pm kn _⟩)
                generalize (wr.setCell ⟨gE, kn * 5, none⟩ (.bool !pm0)).drew = w6 at *
                have HS2 := hide hs2
                clear hs2 HSI e0 f0 a1i
                obtain ⟨_, _, ge1, hA1, _, _, e3, f3, a1i⟩ := HS2.out.get_e kn hk1
                injection hA1 with hA1; injection hA1 with hA1; subst hA1
                go_wp2
                go_region
                have hs3 := HS2.out.store_e (by omega) (kn * 5 + 3) (.int .i64 (bits .xor .i64 ge1 1)) (fun f E hE => ⟨_, hE.set_ge kn _⟩)
                generalize (w6.setCell ⟨gE, kn * 5 + 3, none⟩ (.int .i64 (bits .xor .i64 ge1 1))).drew = w7 at *
                have HS3 := hide hs3
                clear hs3 HS2 e3 f3 a1i
                obtain ⟨gM, pm1, hA2, m0, g0, b1i⟩ := HS3.out.get_m kn hk2
                subst hA2
                go_wp2
                go_region
                have hs4 := HS3.out.store_m kn hk2 (!pm1)
                generalize (w7.setCell ⟨gM, kn * 2, none⟩ (.bool !pm1)).drew = w8 at *
                have HS4 := hide hs4
                clear hs4 HS3 m0 g0 b1i
                go_wp2
                go_roundw
                case rel => exact ⟨q + 1, by omega, by go_num, HS4.out⟩
                case measure => simp [intOf]; omega
              · obtain ⟨gE, pm0, ge0, hA1, e0, f0, e3, f3, a1i⟩ := HSI.out.get_e kn hk1
                subst hA1
                clear e3 f3
                go_wp2
                go_region
                have hs2 := HSI.out.store_e (by omega) (kn * 5) (.bool !pm0) (fun f E hE => ⟨_, hE.set_pm kn _⟩)
                generalize (wr.setCell ⟨gE, kn * 5, none⟩ (.bool !pm0)).drew = w6 at *
                have HS2 := hide hs2
                clear hs2 HSI e0 f0 a1i
                obtain ⟨_, _, ge1, hA1, _, _, e3, f3, a1i⟩ := HS2.out.get_e kn hk1
                injection hA1 with hA1; injection hA1 with hA1; subst hA1
                go_wp2
                go_region
                have hs3 := HS2.out.store_e (by omega) (kn * 5 + 3) (.int .i64 (bits .xor .i64 ge1 1)) (fun f E hE => ⟨_, hE.set_ge kn _⟩)
                generalize (w6.setCell ⟨gE, kn * 5 + 3, none⟩ (.int .i64 (bits .xor .i64 ge1 1))).drew = w7 at *
                have HS3 := hide hs3
                clear hs3 HS2 e3 f3 a1i
                go_wp2
                go_roundw
                case rel => exact ⟨q + 1, by omega, by go_num, HS3.out⟩
                case measure => simp [intOf]; omega
            · by_cases hk2 : kn < n2
              · obtain ⟨gM, pm1, hA2, m0, g0, b1i⟩ := HSI.out.get_m kn hk2
                subst hA2
                go_wp2
                go_region
                have hs4 := HSI.out.store_m kn hk2 (!pm1)
                generalize (wr.setCell ⟨gM, kn * 2, none⟩ (.bool !pm1)).drew = w8 at *
                have HS4 := hide hs4
                clear hs4 HSI m0 g0 b1i
                go_wp2
                go_roundw
                case rel => exact ⟨q + 1, by omega, by go_num, HS4.out⟩
                case measure => simp [intOf]; omega
              · go_wp2
                go_roundw
                case rel => exact ⟨q + 1, by omega, by go_num, HSI.out⟩
                case measure => simp [intOf]; omega
          · go_wp2
            go_roundw
            case rel => exact ⟨q + 1, by omega, by go_num, HSI.out⟩
            case measure => simp [intOf]; omega
    · have HB := hide hst.bel
      clear hst
      go_wp2
      go_ret
      exact ⟨rfl, HB.out⟩
end Go.Proofs.Ytopckpjhdbjmbaa.Ld
