/- works: what each statement asks first. -/
import Derived.Test.YtgfjdkkfgclhjaaCL
namespace Go.Proofs.Ytgfjdkkfgclhjaa.Bd
open Go.RowKit Go.Proofs.Ytgfjdkkfgclhjaa Go.Proofs.Ytgfjdkkfgclhjaa.Lx Go.Maps

/-- an arena that lies in new memory -/
structure Mine (w0 w : World) (k : Blk) (s : St) : Prop where
  L : Live w k s
  b : Below w0.heap.size w0 w
  f : ∀ i, fp k i → w0.heap.size ≤ i
theorem Mine.turn {w0 w w' : World} {k k' : Blk} {s s' : St} (h : Mine w0 w k s) (L : Live w' k' s') (T : Turn k k' w w') : Mine w0 w' k' s' := by
  have hs := h.b.size
  refine ⟨L, h.b.trans (T.low h.f hs), fun i hi => ?_⟩
  unfold fp at hi
  rw [T.p, T.bm, T.it, T.gi, T.he] at hi
  rcases hi with e | e | e
  · exact h.f i (.inl e)
  · rcases T.row with e' | e'
    · exact h.f i (.inr (.inl (by omega)))
    · omega
  · exact h.f i (.inr (.inr e))
theorem Mine.below {w0 w w' : World} {k : Blk} {s : St} (h : Mine w0 w k s) (hb : Below w.heap.size w w') : Mine w0 w' k s := ⟨h.L.below hb, h.b.trans (hb.mono h.b.size), h.f⟩
theorem mine_new {w w' : World} {k : Blk} {vs ms : Nat} (h : Own w w' k (St.new vs ms)) (h1 : vs ≤ 256) (h2 : ms ≤ 4194304) : Mine w w' k (St.new vs ms) :=
  ⟨⟨h.1, ⟨h2, Nat.zero_le _, by show 2 ≤ 900000000; omega, h1⟩, rfl, rfl⟩, h.2.1, h.2.2⟩
theorem src2 (w : World) (a b : Int) : Src (w.alloc (.cells #[.int .i64 a, .int .i64 b] 3)) (some ⟨w.heap.size, 0, none⟩) 2 2 1 ([a, b].map encI) := by
  refine ⟨rfl, .inr ⟨_, rfl, fun j u hu => ?_⟩⟩
  match j, hu with
  | 0, hu => simp at hu; subst hu; exact cell_heap (j := 0) (heap_new _ _) rfl
  | 1, hu => simp at hu; subst hu; exact cell_heap (j := 1) (heap_new _ _) rfl
  | j + 2, hu => simp at hu
theorem srcB2 (w : World) (a b : Bool) : Src (w.alloc (.cells #[.bool a, .bool b] 4)) (some ⟨w.heap.size, 0, none⟩) 2 2 1 ([a, b].map Value.bool) := by
  refine ⟨rfl, .inr ⟨_, rfl, fun j u hu => ?_⟩⟩
  match j, hu with
  | 0, hu => simp at hu; subst hu; exact cell_heap (j := 0) (heap_new _ _) rfl
  | 1, hu => simp at hu; subst hu; exact cell_heap (j := 1) (heap_new _ _) rfl
  | j + 2, hu => simp at hu
def twoS : Nat → Bool := fun x => decide (x < 2)
theorem nS_two : nS twoS 0 = 2 := by decide
theorem two0 (x : Nat) (h : oneS 0 x = true) : twoS x = true := by unfold oneS at h; unfold twoS; simp at h ⊢; omega
theorem two1 (x : Nat) (h : oneS 1 x = true) : twoS x = true := by unfold oneS at h; unfold twoS; simp at h ⊢; omega
def andG : Env → Bool := fun ρ => ρ 0 && ρ 1
theorem ne_at {F G : Env → Bool} (ρ : Env) (h : F ρ ≠ G ρ) : F ≠ G := fun e => h (by rw [e])
theorem and_new {s : St} {x y : Nat} (hx : Nod s x (oneS 0) (fun ρ => ρ 0)) (hy : Nod s y (oneS 1) (fun ρ => ρ 1)) (hhe : ∀ z : Nat, s.he z = true ↔ z = y ∨ z = x) : OneNew s twoS andG := by
  intro nd' r t hex hw d
  obtain ⟨ex, rfl⟩ := hex
  obtain ⟨_, tx, dx⟩ := hx
  obtain ⟨_, ty, dy⟩ := hy
  have hh : Hangs andG 0 := ⟨fun _ => true, by decide⟩
  obtain ⟨h2, lo, hi, tl, th, hr, dl, dh⟩ := row_of hw d hh (fun x hx => by omega)
  have e0 : (fun ρ : Env => andG (upd ρ 0 false)) = fun _ => false := by funext ρ; simp [andG, upd]
  have e1 : (fun ρ : Env => andG (upd ρ 0 true)) = fun ρ => ρ 1 := by funext ρ; simp [andG, upd]
  rw [e0] at dl
  rw [e1] at dh
  have hl := dl.eq hw.once (Den.zero (S := twoS))
  have hhi := dh.eq hw.once (dy.append (nx := ex))
  refine ⟨h2, ?_, 0, lo, hi, hr, .inl (by omega), .inr (by rw [hhi]; exact (hhe y).2 (.inl rfl))⟩
  cases hc : s.he r with
  | false => rfl
  | true =>
    rcases (hhe r).1 hc with e | e
    · rw [e] at d
      exact absurd (d.det2 (dy.append (nx := ex))).2 (ne_at (fun i => decide (i = 1)) (by decide))
    · rw [e] at d
      exact absurd (d.det2 (dx.append (nx := ex))).2 (ne_at (fun i => decide (i = 0)) (by decide))
set_option maxHeartbeats 4000000 in
set_option maxRecDepth 100000 in
theorem works_any (w : World) : Calls Try.prog 8 #[] w fun e w' => e = .returned (.bool true) ∧ Below w.heap.size w w' := by
  go_enter Try.func8, Try.ntmps8
  go_wp2_with fail
  refine (new_any 2 10 w (by omega) (by omega)).mono ?_
  rintro e w1 ⟨k, rfl, ho⟩
  have M1 := hide (mine_new ho (by omega) (by omega))
  have HV0 : Hid (Calls Try.prog 18 #[.pointer (some ⟨k.p, 0, none⟩), .int .i64 0] w1 (ApiOut k (St.new 2 10) w1 3 (OkSem (oneS 0) (fun ρ => ρ 0)))) := hide (Var_sem k (St.new 2 10) 0 w1 M1.out.L (by show 0 < 2; omega) (by show 0 + 3 ≤ 1000000000; omega))
  clear ho
  go_wp2_with fail
  refine HV0.out.mono ?_
  intro e w2 hh
  obtain ⟨k2, s2, x, rfl, L2, T2, E2, m2, hn2, gn2, Nx, he2⟩ := one_of hh M1.out.L (by show 2 + 1 ≤ 900000000; omega) (var_new (fun z hz => by cases hz)) (by show 0 + 1 ≤ 10; omega)
  have M2 := hide (M1.out.turn L2 T2)
  have hp2 := hide T2.p
  have HN2 := hide Nx
  have HE2 := hide he2
  have hms2 : s2.ms = 10 := E2.ms
  have hvs2 : s2.vs = 2 := E2.vs
  have hm2 : s2.m ≤ 1 := by have : s2.m + 2 ≤ 0 + 3 := m2; omega
  have hh2 : s2.hn = 1 := hn2
  have hg2 : s2.gn = 3 := gn2
  have HF2 := hide (And.intro hms2 (And.intro hvs2 (And.intro hm2 (And.intro hh2 hg2))))
  have HV1 : Hid (Calls Try.prog 18 #[.pointer (some ⟨k2.p, 0, none⟩), .int .i64 1] w2 (ApiOut k2 s2 w2 3 (OkSem (oneS 1) (fun ρ => ρ 1)))) := hide (Var_sem k2 s2 1 w2 L2 (by omega) (by omega))
  rw [T2.p] at HV1
  clear hh L2 T2 E2 m2 hn2 gn2 Nx he2 hms2 hvs2 hm2 hh2 hg2 HV0
  go_wp2_with fail
  refine HV1.out.mono ?_
  intro e w3 hh
  obtain ⟨k3, s3, y, rfl, L3, T3, E3, m3, hn3, gn3, Ny, he3⟩ := one_of hh M2.out.L (by have := HF2.out; omega) (var_new (fun z hz => by
    rcases (HE2.out z).1 hz with e | e
    · subst e
      obtain ⟨_, t, d⟩ := HN2.out
      exact ⟨_, t, _, d, ne_at (fun i => decide (i = 0)) (by decide)⟩
    · cases e)) (by have := HF2.out; omega)
  have M3 := hide (M2.out.turn L3 T3)
  have hp3 := hide (T3.p.trans hp2.out)
  have HNy := hide Ny
  have HNx := hide (HN2.out.ext E3)
  have HE3 : Hid (∀ z : Nat, s3.he z = true ↔ z = y ∨ z = x) := hide (fun z => (he3 z).trans (or_congr Iff.rfl ((HE2.out z).trans ⟨fun h => h.resolve_right (fun h => by cases h), .inl⟩)))
  have hms3 : s3.ms = 10 := E3.ms.trans HF2.out.1
  have hvs3 : s3.vs = 2 := E3.vs.trans HF2.out.2.1
  have hm3 : s3.m ≤ 2 := by have := HF2.out; omega
  have hh3 : s3.hn = 2 := by have := HF2.out; omega
  have hg3 : s3.gn = 4 := by have := HF2.out; omega
  have HF3 := hide (And.intro hms3 (And.intro hvs3 (And.intro hm3 (And.intro hh3 hg3))))
  have HAND := hide (And_sem twoS k3 s3 x y _ _ 2 _ _ w3 L3.ar L3.ad ⟨L3.g0, L3.g1⟩ HNx.out.1 HNy.out.1 (HNx.out.2.choose_spec.mono two0) (HNy.out.2.choose_spec.mono two1) (by rw [nS_two]; omega) (by omega))
  rw [hp3.out] at HAND
  clear hh L3 T3 E3 m3 hn3 gn3 Ny he3 hms3 hvs3 hm3 hh3 hg3 HV1
  go_wp2_with fail
  refine HAND.out.mono ?_
  intro e w4 hh
  obtain ⟨k4, s4, z, rfl, L4, T4, E4, m4, hn4, gn4, Nz, he4⟩ := one_of hh M3.out.L (by have := HF3.out; omega) (and_new HNx.out HNy.out HE3.out) (by have := HF3.out; omega)
  have M4 := hide (M3.out.turn L4 T4)
  have hp4 := hide (T4.p.trans hp3.out)
  have HNz := hide Nz
  have HN4x := hide (HNx.out.ext E4)
  have HN4y := hide (HNy.out.ext E4)
  have hvs4 : s4.vs = 2 := E4.vs.trans HF3.out.2.1
  have hm4 : s4.m ≤ 100 := by have := HF3.out; omega
  have hh4 : s4.hn = 3 := by have := HF3.out; omega
  have HF4 := hide (And.intro hvs4 (And.intro hm4 hh4))
  -- what is told of the three
  have hx1 : (1 : Int) < x := by
    rcases (by omega : x = 0 ∨ x = 1 ∨ 2 ≤ x) with rfl | rfl | h
    · exact absurd (HN4x.out.fn (L4.no (oneS 0))) (ne_at (fun _ => true) (by decide))
    · exact absurd (HN4x.out.fn (L4.yes (oneS 0))) (ne_at (fun _ => false) (by decide))
    · omega
  have hy1 : (1 : Int) < y := by
    rcases (by omega : y = 0 ∨ y = 1 ∨ 2 ≤ y) with rfl | rfl | h
    · exact absurd (HN4y.out.fn (L4.no (oneS 1))) (ne_at (fun _ => true) (by decide))
    · exact absurd (HN4y.out.fn (L4.yes (oneS 1))) (ne_at (fun _ => false) (by decide))
    · omega
  have hz1 : (1 : Int) < z := by
    rcases (by omega : z = 0 ∨ z = 1 ∨ 2 ≤ z) with rfl | rfl | h
    · exact absurd (Nz.fn (L4.no twoS)) (ne_at (fun _ => true) (by decide))
    · exact absurd (Nz.fn (L4.yes twoS)) (ne_at (fun _ => false) (by decide))
    · omega
  have hxy : (x : Int) ≠ y := by
    intro e
    have : x = y := by omega
    subst this
    exact absurd (HN4x.out.fn HN4y.out) (ne_at (fun i => decide (i = 0)) (by decide))
  have b1 : decide ((1 : Int) < x) = true := by simpa using hx1
  have b2 : decide ((1 : Int) < y) = true := by simpa using hy1
  have b3 : decide ((1 : Int) < z) = true := by simpa using hz1
  have b4 : ((x : Int) != y) = true := by simpa using hxy
  have HAT := hide (fun (w' : World) (hb : Below w4.heap.size w4 w') (a b : Bool) (hS : Src w' (some ⟨w'.heap.size - 1, 0, none⟩) 2 2 1 ([a, b].map Value.bool)) => True.intro)
  have hb5 := bel_one w4 (.cells #[.bool true, .bool true] 4)
  have HA1 := hide (At_any twoS k4 s4 z _ andG _ 2 [true, true] _ (L4.below hb5).ar Nz.1 Nz.2.choose_spec (srcB2 w4 true true) (by rw [hvs4]; rfl) (by omega) (fun x hx => by unfold twoS at hx; simp at hx; omega) (by omega))
  rw [hp4.out, show andG (envOf [true, true]) = true by decide, show [true, true].length = 2 from rfl] at HA1
  have HB5 := hide hb5
  clear hh L4 T4 E4 m4 hn4 gn4 Nz he4 hvs4 hm4 hh4 HAND HAT hb5
  go_wp2_with fail
  refine HA1.out.mono ?_
  rintro e w5 ⟨rfl, hb⟩
  have M5 := hide (M4.out.below (below_wide HB5.out hb))
  have HA2 := hide (At_any twoS k4 s4 z _ andG _ 2 [true, false] _ (M5.out.L.below (bel_one w5 (.cells #[.bool true, .bool false] 4))).ar HNz.out.1 HNz.out.2.choose_spec (srcB2 w5 true false) (by rw [HF4.out.1]; rfl) (by have := HF4.out; omega) (fun x hx => by have := HF4.out; unfold twoS at hx; simp at hx; omega) (by have := HF4.out; omega))
  rw [hp4.out, show andG (envOf [true, false]) = false by decide, show [true, false].length = 2 from rfl] at HA2
  clear hb HA1 HB5
  go_wp2_with fail
  refine HA2.out.mono ?_
  rintro e w6 ⟨rfl, hb⟩
  have M6 := hide (M5.out.below (below_wide (bel_one w5 (.cells #[.bool true, .bool false] 4)) hb))
  have HCN := hide (Count_any twoS k4 s4 z _ andG _ 2 [0, 1] _ (M6.out.L.below (bel_one w6 (.cells #[.int .i64 0, .int .i64 1] 3))).ar (by have := HF4.out; omega) HNz.out.1 HNz.out.2.choose_spec (by decide) (fun x hx => by have := HF4.out; simp at hx; omega) (fun x hx => by unfold twoS at hx; simp at hx ⊢; omega) (src2 w6 0 1) (by decide) (by have := HF4.out; omega) (by
    have := min_le twoS HNz.out.2.choose
    rw [nS_two] at this
    have : 2 ^ nS twoS HNz.out.2.choose ≤ 2 ^ 2 := Nat.pow_le_pow_right (by omega) this
    omega))
  rw [hp4.out, show ofN (cntL andG [0, 1] z0) = (0, 1) by decide, show [0, 1].length = 2 from rfl] at HCN
  unfold cEl at HCN
  clear hb HA2
  go_wp2_with fail
  refine HCN.out.mono ?_
  rintro e w7 ⟨rfl, hb⟩
  have M7 := hide (M6.out.below (below_wide (bel_one w6 (.cells #[.int .i64 0, .int .i64 1] 3)) hb))
  clear hb HCN
  go_wp2_with fail
  have hb8 := bel_one w7 (.cells #[.int .u64 0, .int .u64 1] 34)
  have HU := hide (Used_any k4 s4 _ (M7.out.L.below hb8).ar)
  rw [hp4.out, HF4.out.2.2] at HU
  have HB8 := hide (M7.out.below hb8).b
  clear hb8
  refine HU.out.mono ?_
  rintro e w8 ⟨rfl, rfl⟩
  go_wp2_with fail
  go_ret
  exact ⟨rfl, HB8.out⟩
end Go.Proofs.Ytgfjdkkfgclhjaa.Bd
