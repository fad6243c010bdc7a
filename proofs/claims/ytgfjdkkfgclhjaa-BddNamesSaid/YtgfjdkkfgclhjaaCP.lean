/- BddNames: two arenas side by side; the walk. -/
import Derived.Test.YtgfjdkkfgclhjaaCN
namespace Go.Proofs.Ytgfjdkkfgclhjaa.Bd
open Go.RowKit Go.Proofs.Ytgfjdkkfgclhjaa Go.Proofs.Ytgfjdkkfgclhjaa.Lx Go.Maps

theorem MSet.block {P : Program} {w w' : World} {kt e : TypeId} {b n N : Nat} {α : Type} {en : α → Value} {f : α → Bool} (h : MSet P w kt e b n N en f) (hb : w'.heap[b]? = w.heap[b]?) : MSet P w' kt e b n N en f := by
  obtain ⟨D, h1, h2⟩ := h
  obtain ⟨es, cl, hh, F, hs', hD⟩ := h1
  exact ⟨D, ⟨es, cl, hb.trans hh, F, hs', hD⟩, h2⟩
theorem own_block {w w' : World} {base size n g c : Nat} {e : TypeId} {xs : List Value} {m : Nat} (h : w.ownsRow base e size (.slice (some ⟨g, 0, none⟩) m c) n xs) (hb : w'.heap[g]? = w.heap[g]?) : w'.ownsRow base e size (.slice (some ⟨g, 0, none⟩) m c) n xs := by
  refine ⟨h.1, ?_⟩
  rcases h.2 with ⟨h1, _⟩ | ⟨g', cap, cur, h1, h2, h3, h4⟩
  · cases h1
  · refine .inr ⟨g', cap, cur, h1, h2, ?_, h4⟩
    injection h1 with h1
    injection h1 with h1
    injection h1 with h1
    subst h1
    exact hb.trans h3
theorem Hp.same {w w' : World} {k : Blk} {s : St} {fb ft : Nd → Option Int} (h : Hp w k s fb ft) (hs : ∀ i, fp k i → w'.heap[i]? = w.heap[i]?) : Hp w' k s fb ft := by
  have a1 := hs k.p (by simp [fp])
  have a2 := hs k.g (by simp [fp])
  have a3 := hs k.bm (by simp [fp])
  have a4 := hs k.it (by simp [fp])
  have a5 := hs k.gi (by simp [fp])
  have a6 := hs k.he (by simp [fp])
  obtain ⟨N, hg⟩ := h.gi
  obtain ⟨D1, ⟨es1, cl1, hh1, F1, hs1, hD1⟩, h21⟩ := h.bm
  obtain ⟨D2, ⟨es2, cl2, hh2, F2, hs2, hD2⟩, h22⟩ := h.it
  exact ⟨a1.trans h.p, own_block h.v a2, ⟨D1, ⟨es1, cl1, a3.trans hh1, F1, hs1, hD1⟩, h21⟩, ⟨D2, ⟨es2, cl2, a4.trans hh2, F2, hs2, hD2⟩, h22⟩, ⟨N, hg.block a5⟩, h.he.block a6, h.d1, h.d2, h.d3, h.d4, h.d5, h.d6⟩
def Dj (k1 k2 : Blk) : Prop := ∀ i, fp k1 i → ¬ fp k2 i
theorem Dj.swap {k1 k2 : Blk} (h : Dj k1 k2) : Dj k2 k1 := fun i h2 h1 => h i h1 h2
theorem Ar.lt {w : World} {k : Blk} {s : St} (h : Ar w k s) : ∀ i, fp k i → i < w.heap.size := by
  obtain ⟨_, _, H, _⟩ := h
  exact H.lt
theorem Live.other {w w' : World} {k k2 k2' : Blk} {s : St} (h : Live w k s) (T : Turn k2 k2' w w') (hd : Dj k k2) : Live w' k s := by
  obtain ⟨⟨fb, ft, H, I⟩, a, b, c⟩ := h
  exact ⟨⟨fb, ft, H.same (fun i hi => T.block i (H.lt i hi) (hd i hi)), I⟩, a, b, c⟩
theorem Dj.turn {w w' : World} {k k2 k2' : Blk} {s : St} (h : Live w k s) (T : Turn k2 k2' w w') (hd : Dj k k2) : Dj k k2' := fun i hi => T.fpn (h.ar.lt i hi) (hd i hi)
/-- two arenas in new memory -/
structure Two (w0 w : World) (kx : Blk) (sx : St) (ky : Blk) (sy : St) : Prop where
  x : Mine w0 w kx sx
  y : Mine w0 w ky sy
  d : Dj kx ky
theorem Two.below {w0 w w' : World} {kx ky : Blk} {sx sy : St} (h : Two w0 w kx sx ky sy) (hb : Below w.heap.size w w') : Two w0 w' kx sx ky sy := ⟨h.x.below hb, h.y.below hb, h.d⟩
theorem Two.tx {w0 w w' : World} {kx kx' ky : Blk} {sx sx' sy : St} (h : Two w0 w kx sx ky sy) (L : Live w' kx' sx') (T : Turn kx kx' w w') : Two w0 w' kx' sx' ky sy := by
  have m := h.x.turn L T
  exact ⟨m, ⟨h.y.L.other T h.d.swap, m.b, h.y.f⟩, (Dj.turn h.y.L T h.d.swap).swap⟩
theorem Two.ty {w0 w w' : World} {kx ky ky' : Blk} {sx sy sy' : St} (h : Two w0 w kx sx ky sy) (L : Live w' ky' sy') (T : Turn ky ky' w w') : Two w0 w' kx sx ky' sy' := by
  have m := h.y.turn L T
  exact ⟨⟨h.x.L.other T h.d, m.b, h.x.f⟩, m, Dj.turn h.x.L T h.d⟩
theorem two_new {w0 w w' : World} {kx ky : Blk} {sx : St} {vs ms : Nat} (h : Mine w0 w kx sx) (ho : Own w w' ky (St.new vs ms)) (h1 : vs ≤ 256) (h2 : ms ≤ 4194304) : Two w0 w' kx sx ky (St.new vs ms) := by
  have m := mine_new ho h1 h2
  have hs := h.b.size
  refine ⟨h.below m.b, ⟨m.L, (h.below m.b).b, fun i hi => by have := m.f i hi; omega⟩, fun i hx hy => ?_⟩
  have := h.L.ar.lt i hx
  have := m.f i hy
  omega
theorem cntL_true (l : List Nat) : ∀ ρ, cntL (fun _ => true) l ρ = 2 ^ l.length := by
  induction l with
  | nil => intro ρ; rfl
  | cons v vs ih => intro ρ; simp only [cntL, ih, List.length_cons, Nat.pow_succ]; omega
theorem cnt127 : ofN (cntL (fun _ => true) (List.range 127) z0) = (9223372036854775808, 0) := by
  rw [cntL_true, List.length_range]
  decide
theorem not_new {s : St} {v : Nat} (hv : Nod s v (oneS 0) (fun ρ => ρ 0)) (hhe : ∀ z : Nat, s.he z = true ↔ z = v) : ∀ (nd' : List Nd) (r t : Nat), (∃ ex, nd' = s.nd ++ ex) → WF nd' → Den (oneS 0) nd' r t (fun ρ => !ρ 0) → 2 ≤ r ∧ s.he r = false := by
  intro nd' r t hex hw d
  obtain ⟨ex, rfl⟩ := hex
  obtain ⟨_, tv, dv⟩ := hv
  obtain ⟨h2, _⟩ := row_of hw d (v := 0) ⟨fun _ => true, by decide⟩ (fun x hx => by omega)
  refine ⟨h2, ?_⟩
  cases hc : s.he r with
  | false => rfl
  | true =>
    have e := (hhe r).1 hc
    rw [e] at d
    exact absurd (d.det2 (dv.append (nx := ex))).2 (ne_at (fun _ => true) (by decide))
theorem or_same {s : St} {v : Nat} (hv : Nod s v (oneS 0) (fun ρ => ρ 0)) (hhe : ∀ z : Nat, s.he z = true ↔ z = v) : ∀ (nd' : List Nd) (r t : Nat), (∃ ex, nd' = s.nd ++ ex) → WF nd' → Den (oneS 0) nd' r t (fun ρ => ρ 0 || ρ 0) → s.he r = true := by
  intro nd' r t hex hw d
  obtain ⟨ex, rfl⟩ := hex
  obtain ⟨_, tv, dv⟩ := hv
  have e : (fun ρ : Env => ρ 0 || ρ 0) = fun ρ => ρ 0 := by funext ρ; simp
  rw [e] at d
  exact (hhe r).2 (d.eq hw.once (dv.append (nx := ex)))
set_option maxHeartbeats 8000000 in
set_option maxRecDepth 100000 in
theorem names_any (w : World) : Calls Try.prog 5 #[] w fun e w' => e = .returned (.bool true) ∧ Below w.heap.size w w' := by
  go_enter Try.func5, Try.ntmps5
  go_wp2_with fail
  refine (works_any w).mono ?_
  rintro e w1 ⟨rfl, hb1⟩
  have HB1 := hide hb1
  clear hb1
  go_wp2_with fail
  refine (var_nil 0 w1).mono ?_
  rintro e w2 ⟨rfl, rfl⟩
  go_wp2_with fail
  refine (Ite_nil 0 0 0 _).mono ?_
  rintro e w3 ⟨rfl, hb⟩
  have HB3 := hide (below_wide HB1.out hb)
  clear hb HB1
  go_wp2_with fail
  refine (At_nil 0 _ _).mono ?_
  rintro e w4 ⟨rfl, hb⟩
  have HB4 := hide (below_wide HB3.out hb)
  clear hb HB3
  go_wp2_with fail
  refine (Count_nil 0 none 0 0 _).mono ?_
  rintro e w5 ⟨rfl, hb⟩
  have HB5 := hide (below_wide (below_wide HB4.out hb) (bel_one w5 (.cells #[.int .u64 0, .int .u64 0] 34)))
  clear hb HB4
  go_wp2_with fail
  refine (Least_nil 0 _ _).mono ?_
  rintro e w6 ⟨rfl, hb⟩
  have HB6 := hide (below_wide HB5.out hb)
  clear hb HB5
  go_wp2_with fail
  refine (Rename_nil 0 _ _ _).mono ?_
  rintro e w7 ⟨rfl, hb⟩
  have HB7 := hide (below_wide HB6.out hb)
  clear hb HB6
  go_wp2_with fail
  refine (Vars_nil _).mono ?_
  rintro e w8 ⟨rfl, rfl⟩
  go_wp2_with fail
  refine (Used_nil _).mono ?_
  rintro e w9 ⟨rfl, rfl⟩
  go_wp2_with fail
  refine (new_bad 257 1 _ (by omega) (by omega)).mono ?_
  rintro e w10 ⟨rfl, rfl⟩
  go_wp2_with fail
  refine (new_bad (-1) 1 _ (by omega) (by omega)).mono ?_
  rintro e w11 ⟨rfl, rfl⟩
  go_wp2_with fail
  refine (new_bad 1 4194305 _ (by omega) (by omega)).mono ?_
  rintro e w12 ⟨rfl, rfl⟩
  go_wp2_with fail
  refine (new_any 256 4194304 _ (by omega) (by omega)).mono ?_
  rintro e wa ⟨kx, rfl, hox⟩
  have MX := hide (show Mine w wa kx (St.new 256 4194304) from ⟨(mine_new hox (by omega) (by omega)).L, below_wide HB7.out hox.2.1, fun i hi => by have := hox.2.2 i hi; have := HB7.out.size; omega⟩)
  clear hox HB7
  go_wp2_with fail
  refine (new_any 2 1 _ (by omega) (by omega)).mono ?_
  rintro e wb ⟨ky, rfl, hoy⟩
  have TW := hide (two_new MX.out hoy (by omega) (by omega))
  clear hoy MX
  have HV : Hid (Calls Try.prog 18 #[.pointer (some ⟨kx.p, 0, none⟩), .int .i64 255] wb (ApiOut kx (St.new 256 4194304) wb 3 (OkSem (oneS 255) (fun ρ => ρ 255)))) := hide (Var_sem kx (St.new 256 4194304) 255 wb TW.out.x.L (by show 255 < 256; omega) (by show 0 + 3 ≤ 1000000000; omega))
  go_wp2_with fail
  refine HV.out.mono ?_
  intro e wc hh
  obtain ⟨kx1, sx1, r, rfl, L1, T1, E1, m1, hn1, gn1, Nr⟩ := sem_of hh TW.out.x.L (by show 2 + 1 ≤ 900000000; omega) (nS_one 255) (by show 0 + 2 ^ (1 - 3) + 255 ≤ 4194304; decide)
  have TW1 := hide (TW.out.tx L1 T1)
  have hpx := hide T1.p
  have hvx : sx1.vs = 256 := E1.vs
  have hmx : sx1.m ≤ 1 := by have : sx1.m + 2 ≤ 0 + 3 := m1; omega
  have HVB := hide (var_bad kx1 sx1 256 wc L1.ar (.inr (by rw [hvx]; decide)))
  rw [T1.p] at HVB
  have HFX := hide (And.intro hvx hmx)
  clear hh L1 T1 E1 m1 hn1 gn1 Nr hvx hmx HV TW
  go_wp2_with fail
  refine HVB.out.mono ?_
  rintro e wd ⟨rfl, rfl⟩
  have HW0 : Hid (Calls Try.prog 18 #[.pointer (some ⟨ky.p, 0, none⟩), .int .i64 0] wd (ApiOut ky (St.new 2 1) wd 3 (OkSem (oneS 0) (fun ρ => ρ 0)))) := hide (Var_sem ky (St.new 2 1) 0 wd TW1.out.y.L (by show 0 < 2; omega) (by show 0 + 3 ≤ 1000000000; omega))
  clear HVB
  go_wp2_with fail
  refine HW0.out.mono ?_
  intro e we hh
  obtain ⟨ky1, sy1, v, rfl, L1, T1, E1, m1, hn1, gn1, Nv, he1⟩ := one_of hh TW1.out.y.L (by show 2 + 1 ≤ 900000000; omega) (var_new (fun z hz => by cases hz)) (by show 0 + 1 ≤ 1; omega)
  have TW2 := hide (TW1.out.ty L1 T1)
  have hpy := hide T1.p
  have HNv := hide Nv
  have HHE := hide (show ∀ z : Nat, sy1.he z = true ↔ z = v from fun z => (he1 z).trans ⟨fun h => h.resolve_right (fun h => by cases h), .inl⟩)
  have hs1 : sy1.ms = 1 := E1.ms
  have hs2 : sy1.vs = 2 := E1.vs
  have hs3 : sy1.hn = 1 := hn1
  have hs4 : sy1.gn = 3 := gn1
  have hs5 : sy1.m ≤ 1 := by have : sy1.m + 2 ≤ 0 + 3 := m1; omega
  have HFY := hide (And.intro hs1 (And.intro hs2 (And.intro hs3 (And.intro hs4 hs5))))
  have HW1 : Hid (Calls Try.prog 18 #[.pointer (some ⟨ky1.p, 0, none⟩), .int .i64 1] we (ApiOut ky1 sy1 we 3 (OkSem (oneS 1) (fun ρ => ρ 1)))) := hide (Var_sem ky1 sy1 1 we L1 (by omega) (by omega))
  rw [T1.p] at HW1
  clear hh L1 T1 E1 m1 hn1 gn1 Nv he1 hs1 hs2 hs3 hs4 hs5 HW0 TW1
  go_wp2_with fail
  refine HW1.out.mono ?_
  intro e wf hh
  obtain ⟨ky2, sy2, rfl, L2, T2, E2, m2, hn2, gn2, he2⟩ := full_of hh TW2.out.y.L (fun nd' r t hex hw d => by
    obtain ⟨a, b, _⟩ := var_new (s := sy1) (i := 1) (fun z hz => by
      have e := (HHE.out z).1 hz
      subst e
      obtain ⟨_, t, d⟩ := HNv.out
      exact ⟨_, t, _, d, ne_at (fun i => decide (i = 0)) (by decide)⟩) nd' r t hex hw d
    exact ⟨a, b⟩) (by have := HFY.out; omega)
  have TW3 := hide (TW2.out.ty L2 T2)
  have hpy2 := hide (T2.p.trans hpy.out)
  have HNv2 := hide (HNv.out.ext E2)
  have HHE2 := hide (show ∀ z : Nat, sy2.he z = true ↔ z = v by rw [he2]; exact HHE.out)
  have HFY2 := hide (show sy2.ms = 1 ∧ sy2.vs = 2 ∧ sy2.hn = 1 ∧ sy2.gn = 3 ∧ sy2.m ≤ 2 by have := HFY.out; exact ⟨E2.ms.trans this.1, E2.vs.trans this.2.1, by omega, by omega, by omega⟩)
  have HNOT := hide (Not_sem (oneS 0) ky2 sy2 v _ 1 _ wf L2.ar L2.ad ⟨L2.g0, L2.g1⟩ HNv2.out.1 HNv2.out.2.choose_spec (nS_one 0) (by have := HFY2.out; omega))
  rw [hpy2.out] at HNOT
  clear hh L2 T2 E2 m2 hn2 gn2 he2 HW1 TW2 HHE HNv
  go_wp2_with fail
  refine HNOT.out.mono ?_
  intro e wg hh
  obtain ⟨ky3, sy3, rfl, L3, T3, E3, m3, hn3, gn3, he3⟩ := full_of hh TW3.out.y.L (not_new HNv2.out HHE2.out) (by have := HFY2.out; omega)
  have TW4 := hide (TW3.out.ty L3 T3)
  have hpy3 := hide (T3.p.trans hpy2.out)
  have HNv3 := hide (HNv2.out.ext E3)
  have HHE3 := hide (show ∀ z : Nat, sy3.he z = true ↔ z = v by rw [he3]; exact HHE2.out)
  have HFY3 := hide (show sy3.ms = 1 ∧ sy3.vs = 2 ∧ sy3.hn = 1 ∧ sy3.gn = 3 ∧ sy3.m ≤ 6 by have := HFY2.out; exact ⟨E3.ms.trans this.1, E3.vs.trans this.2.1, by omega, by omega, by omega⟩)
  have HOR := hide (Or_sem (oneS 0) ky3 sy3 v v _ _ 1 _ _ wg L3.ar L3.ad ⟨L3.g0, L3.g1⟩ HNv3.out.1 HNv3.out.1 HNv3.out.2.choose_spec HNv3.out.2.choose_spec (nS_one 0) (by have := HFY3.out; omega))
  rw [hpy3.out] at HOR
  clear hh L3 T3 E3 m3 hn3 gn3 he3 HNOT TW3 HHE2 HNv2
  go_wp2_with fail
  refine HOR.out.mono ?_
  intro e wh hh
  obtain ⟨ky4, sy4, q, rfl, L4, T4, E4, m4, hn4, gn4, Nq, he4⟩ := same_of hh TW4.out.y.L (by have := HFY3.out; omega) (or_same HNv3.out HHE3.out) (by have := HFY3.out; omega)
  have TW5 := hide (TW4.out.ty L4 T4)
  have hpy4 := hide (T4.p.trans hpy3.out)
  have hqv : q = v := Nod.eq L4 (by
    have e : (fun ρ : Env => ρ 0 || ρ 0) = fun ρ => ρ 0 := by funext ρ; simp
    rw [e] at Nq
    exact Nq) (HNv3.out.ext E4)
  subst hqv
  have HN4 := hide (show sy4.hn = 1 by have := HFY3.out; omega)
  clear hh L4 T4 E4 m4 hn4 gn4 Nq he4 HOR TW4
  have HMO := hide (fun W => most_any 127 W (by omega))
  have HMO2 := hide (fun W => most_any 128 W (by omega))
  go_wp2_with fail
  refine (HMO.out _).mono ?_
  rintro e wi ⟨vv, rfl, hrow, hb⟩
  obtain ⟨A, C, rfl⟩ := own_slice hrow
  have TW6 := hide (TW5.out.below hb)
  have HCN := hide (Count_any (fun _ => false) kx1 sx1 1 256 (fun _ => true) A C (List.range 127) wi TW6.out.x.L.ar TW6.out.x.L.ad.vs TW6.out.x.L.g1 .one (rise_range 127) (fun x hx => by have := HFX.out; simp at hx; omega) (fun x hx => by cases hx) (by rw [List.length_range]; exact src_of_own hrow) (by simp) (by have := HFX.out; omega) (by rw [nS_end _ (Nat.le_refl _)]; decide))
  rw [List.length_range, cnt127, hpx.out] at HCN
  unfold cEl at HCN
  clear hrow hb TW5
  go_wp2_with fail
  refine HCN.out.mono ?_
  rintro e wj ⟨rfl, hb⟩
  have TW7 := hide (TW6.out.below hb)
  clear hb HCN TW6
  go_wp2_with fail
  have hbz := bel_one wj (.cells #[.int .u64 9223372036854775808, .int .u64 0] 34)
  have hz := heap_new wj (.cells #[.int .u64 9223372036854775808, .int .u64 0] 34)
  have TW8 := hide (TW7.out.below hbz)
  refine (HMO2.out _).mono ?_
  rintro e wk ⟨vv, rfl, hrow, hb⟩
  obtain ⟨A2, C2, rfl⟩ := own_slice hrow
  have TW9 := hide (TW8.out.below hb)
  have hz2 := heapB hb hz
  have HCL := hide (Count_long (fun _ => false) kx1 sx1 1 256 (fun _ => true) A2 C2 (List.range 128) wk TW9.out.x.L.ar TW9.out.x.L.g1 .one (rise_range 128) (fun x hx => by have := HFX.out; simp at hx; omega) (fun x hx => by cases hx) (by rw [List.length_range]; exact src_of_own hrow) (by simp) (by simp) (by have := HFX.out; omega))
  rw [List.length_range, hpx.out] at HCL
  have HZ2 := hide hz2
  clear hrow hb hbz hz hz2 TW7 TW8
  go_wp2_with fail
  refine HCL.out.mono ?_
  rintro e wl ⟨rfl, hb⟩
  have TW10 := hide (TW9.out.below hb)
  have hbq := bel_one wl (.cells #[.int .u64 0, .int .u64 0] 34)
  have TW11 := hide (TW10.out.below hbq)
  have c0 := cell_heap (j := 0) (heapB hbq (heapB hb HZ2.out)) rfl
  have c1 := cell_heap (j := 1) (heapB hbq (heapB hb HZ2.out)) rfl
  have HU := hide (Used_any ky4 sy4 _ TW11.out.y.L.ar)
  clear hbq
  rw [hpy4.out, HN4.out] at HU
  clear hb HCL TW9 TW10
  go_wp2_with fail
  refine HU.out.mono ?_
  rintro e wm ⟨rfl, rfl⟩
  have HBF := hide TW11.out.x.b
  go_wp2_with fail
  go_ret
  exact ⟨rfl, HBF.out⟩
end Go.Proofs.Ytgfjdkkfgclhjaa.Bd
