/- Restrict. -/
import Derived.Test.YtgfjdkkfgclhjaaBP
namespace Go.Proofs.Ytgfjdkkfgclhjaa.Bd
open Go.RowKit Go.Proofs.Ytgfjdkkfgclhjaa Go.Proofs.Ytgfjdkkfgclhjaa.Lx Go.Maps

theorem call_restrict (xs : Array Value) (w : World) : (callFunc 43 xs).run Try.prog w = .ok (.enter 43 xs) w :=
  call_enter Try.func43 (by kernel_rfl) (by kernel_rfl) xs w
theorem pow_four (n : Nat) : 4 ≤ 2 ^ (n + 2) := by have := Nat.one_le_two_pow (n := n); rw [Nat.pow_succ, Nat.pow_succ]; omega
def resT (i : Nat) (b : Bool) (F : Env → Bool) : Env → Bool := fun ρ => F (upd ρ i b)
def leB (t t' : Nat) : Prop := t ≤ t'
set_option maxHeartbeats 1000000 in
set_option maxRecDepth 100000 in
theorem restrict_made (S : Nat → Bool) (nd0 : List Nd) (k0 : Blk) (w0 : World) (i : Nat) (b : Bool) (b1 b2 b3 : Nat) (hi : i < 256) (c1 : w0.cell? ⟨b1, 0, none⟩ = some (.int .i64 i)) (c2 : w0.cell? ⟨b2, 0, none⟩ = some (.pointer (some ⟨k0.p, 0, none⟩))) (c3 : w0.cell? ⟨b3, 0, none⟩ = some (.bool b)) (n1 : ¬ fp k0 b1) (n2 : ¬ fp k0 b2) (n3 : ¬ fp k0 b3) :
    MadeOK S nd0 (fun _ => S) leB (resT i b) k0 w0 43 #[.pointer (some ⟨b1, 0, none⟩), .pointer (some ⟨b2, 0, none⟩), .pointer (some ⟨b3, 0, none⟩)] := by
  intro k s w v tl th r1 r2 t1 t2 Fl Fh T0 hA hex hv hS h1 h2 l1 d1 l2 d2 i1 i2 hm
  have hp := pow_four (nS S v)
  have e1 := T0.cell c1 n1
  have e2 := T0.cell c2 n2
  have e3 := T0.cell c3 n3
  rw [← T0.p] at e2
  unfold leB at l1 l2
  generalize 2 ^ (nS S v + 2) = R at *
  show Calls Try.prog 43 #[.int .i32 v, .int .i32 r1, .int .i32 r2, .pointer (some ⟨b1, 0, none⟩), .pointer (some ⟨b2, 0, none⟩), .pointer (some ⟨b3, 0, none⟩)] w _
  cases hd : ((v : Int) != i)
  · have hvi : v = i := by have := bne_f hd; omega
    subst hvi
    cases b
    · have HX := hide (show NodeOut k s w R (fun nd' r => ∃ t', leB v t' ∧ Den S nd' r t' (resT v false (fun ρ => if ρ v then Fh ρ else Fl ρ))) (.returned (.int .i32 (r1 : Nat))) w from
        ⟨k, s, r1, rfl, hA, Turn.refl _ _, Up.refl _, by omega, t1, by unfold leB; omega, by
          have e : resT v false (fun ρ => if ρ v then Fh ρ else Fl ρ) = resT v false Fl := by funext ρ; unfold resT; simp only [upd_same, Bool.false_eq_true, if_false]
          rw [e]; exact d1⟩)
      clear hA T0 d1 d2 i1 i2 hex
      go_enter Try.func43, Try.ntmps43
      go_wp2_with fail
      go_ret
      exact HX.out
    · have HX := hide (show NodeOut k s w R (fun nd' r => ∃ t', leB v t' ∧ Den S nd' r t' (resT v true (fun ρ => if ρ v then Fh ρ else Fl ρ))) (.returned (.int .i32 (r2 : Nat))) w from
        ⟨k, s, r2, rfl, hA, Turn.refl _ _, Up.refl _, by omega, t2, by unfold leB; omega, by
          have e : resT v true (fun ρ => if ρ v then Fh ρ else Fl ρ) = resT v true Fh := by funext ρ; unfold resT; simp only [upd_same, if_true]
          rw [e]; exact d2⟩)
      clear hA T0 d1 d2 i1 i2 hex
      go_enter Try.func43, Try.ntmps43
      go_wp2_with fail
      go_ret
      exact HX.out
  · have hvi : v ≠ i := by have := bne_t hd; omega
    have HM := hide (mk_any k s v r1 r2 w hA (by omega) S t1 t2 _ _ d1 d2 (by omega) (by omega) hv hS)
    have HQ : Hid (∀ (e : Ending) (w' : World), (∃ k' s' r, e = .returned (.int .i32 (r : Nat)) ∧ Ar w' k' s' ∧ Turn k k' w w' ∧ Up s s' ∧ s'.m ≤ s.m + 1 ∧ OkMk s.nd s'.nd v r1 r2 r) → ∃ r : Nat, e = .returned (.int .i32 (r : Nat)) ∧ NodeOut k s w R (fun nd' r => ∃ t', leB v t' ∧ Den S nd' r t' (resT i b (fun ρ => if ρ v then Fh ρ else Fl ρ))) (.returned (.int .i32 (r : Nat))) w') := by
      rintro e w' ⟨k', s', r, he, hA', hT', hU', hm', ho⟩
      refine ⟨r, he, k', s', r, rfl, hA', hT', hU', by omega, ?_⟩
      obtain ⟨t', ht, d⟩ := ho S _ _ _ _ hS d1 d2
      have e : resT i b (fun ρ => if ρ v then Fh ρ else Fl ρ) = fun ρ => if ρ v then resT i b Fh ρ else resT i b Fl ρ := by
        funext ρ; unfold resT; simp only [upd_other ρ b hvi]
      exact ⟨t', ht, by rw [e]; exact d⟩
    clear hA T0 d1 d2 i1 i2 hex
    go_enter Try.func43, Try.ntmps43
    go_wp2_with fail
    refine HM.out.mono ?_
    intro e w1 hh
    obtain ⟨r, rfl, hN⟩ := HQ.out e w1 hh
    have HN := hide hN
    clear hN hh
    go_wp2_with fail
    go_ret
    exact HN.out
theorem wrap3 {x : Int} (h : -2147483648 ≤ x) (h2 : x < 2147483648) : IntKind.i32.wrap x = x := by
  simp [IntKind.wrap, IntKind.bits, IntKind.signed, Int.bmod_def]
  omega
theorem cells1 (w : World) (a : Int) : ∀ (j : Nat) (x : Int), [a][j]? = some x → (w.alloc (.cells #[.int .i64 a] 3)).cell? ⟨w.heap.size, j, none⟩ = some (.int .i64 x) := by
  intro j x hx
  refine cell_heap (heap_new _ _) ?_
  match j, hx with
  | 0, hx => simpa using hx
  | j + 1, hx => simp at hx
theorem src1 (w : World) (a : Int) : Src (w.alloc (.cells #[.int .i64 a] 3)) (some ⟨w.heap.size, 0, none⟩) 1 1 1 ([a].map encI) := by
  refine ⟨rfl, .inr ⟨_, rfl, fun j u hu => ?_⟩⟩
  match j, hu with
  | 0, hu => simp at hu; subst hu; exact cell_heap (j := 0) (heap_new _ _) rfl
  | j + 1, hu => simp at hu
theorem box3 (w : World) (a b c : Value) (ta tb tc : TypeId) : Below w.heap.size w (((w.alloc (.cells #[a] ta)).alloc (.cells #[b] tb)).alloc (.cells #[c] tc)) ∧ (((w.alloc (.cells #[a] ta)).alloc (.cells #[b] tb)).alloc (.cells #[c] tc)).heap[w.heap.size]? = some (.cells #[a] ta (0, 0)) ∧ (((w.alloc (.cells #[a] ta)).alloc (.cells #[b] tb)).alloc (.cells #[c] tc)).heap[w.heap.size + 1]? = some (.cells #[b] tb (0, 0)) ∧ (((w.alloc (.cells #[a] ta)).alloc (.cells #[b] tb)).alloc (.cells #[c] tc)).heap[w.heap.size + 1 + 1]? = some (.cells #[c] tc (0, 0)) := by
  refine ⟨((((Below.refl _ w).alloc (Nat.le_refl _) _).alloc (by simp) _).alloc (by simp; omega) _), heap_old (heap_old (heap_new _ _)), ?_, ?_⟩
  · have := heap_new (w.alloc (.cells #[a] ta)) (.cells #[b] tb)
    rw [show (w.alloc (.cells #[a] ta)).heap.size = w.heap.size + 1 by simp] at this
    exact heap_old this
  · have := heap_new ((w.alloc (.cells #[a] ta)).alloc (.cells #[b] tb)) (.cells #[c] tc)
    rw [show ((w.alloc (.cells #[a] ta)).alloc (.cells #[b] tb)).heap.size = w.heap.size + 1 + 1 by simp] at this
    exact this
theorem give_two {k : Blk} {s : St} {r : Nat} {w w' : World} {e : Ending} (h : GiveOut k s r w e w') : ∃ x y : Int, e = .returned (.tuple #[.int .i64 x, .int .i64 y]) ∧ Turn k k w w' := by
  rcases h with ⟨_, h2, _, h4⟩ | ⟨_, h2, _, h4⟩
  · exact ⟨_, _, h2, h4⟩
  · exact ⟨_, _, h2, h4⟩
theorem give_call {k k1 : Blk} {s s1 : St} {r R : Nat} {w : World} {S : Nat → Bool} {G : Env → Bool} {P : Nat → Prop} (hA : Ar w k1 s1) (hr : ∃ t', P t' ∧ Den S s1.nd r t' G) (hm : s1.m + 2 ≤ s.m + R) (hm2 : s.m + R ≤ 1000000000) (U : Up s s1) (ad : Adm s) (hp : k1.p = k.p) :
    Calls Try.prog 37 #[.pointer (some ⟨k.p, 0, none⟩), .int .i32 r] w (GiveOut k1 s1 r w) := by
  obtain ⟨t', _, d⟩ := hr
  rw [← hp]
  exact give_up hA (d.lt hA.wf) (by omega) U ad
theorem api_call {k k1 : Blk} {s s1 : St} {r R : Nat} {w w1 w2 : World} {e : Ending} {S : Nat → Bool} {G : Env → Bool} {P : Nat → Prop} (U : Up s s1) (hm : s1.m + 2 ≤ s.m + R) (ho : ∃ t', P t' ∧ Den S s1.nd r t' G) (T : Turn k k1 w w1) (hw : WF s1.nd) (h : GiveOut k1 s1 r w1 e w2) : ApiOut k s w R (fun nd' r => ∃ t', P t' ∧ Den S nd' r t' G) e w2 := by
  have hr : r < s1.nd.length := by obtain ⟨t', _, d⟩ := ho; exact d.lt hw
  exact api_of U hm ho T hw hr h
set_option maxHeartbeats 2000000 in
set_option maxRecDepth 100000 in
theorem Restrict_any (S : Nat → Bool) (k : Blk) (s : St) (f i t : Nat) (b : Bool) (F : Env → Bool) (w : World) (hA : Ar w k s) (ad : Adm s) (g1 : s.gi f = true) (d : Den S s.nd f t F) (hi : i < s.vs) (hm : s.m + nS S t * 2 ^ (nS S t + 2) + 2 ≤ 1000000000) :
    Calls Try.prog 23 #[.pointer (some ⟨k.p, 0, none⟩), .int .i64 f, .int .i64 i, .bool b] w (ApiOut k s w (nS S t * 2 ^ (nS S t + 2) + 2) (fun nd' r => ∃ t', leB t t' ∧ Den S nd' r t' (resT i b F))) := by
  have hW := hA.wf
  have hnm := hA.nm
  have l1 := d.lt hW
  have hvs := ad.vs
  obtain ⟨hb3, x0, x1, x2⟩ := box3 w (.pointer (some ⟨k.p, 0, none⟩)) (.int .i64 i) (.bool b) 24 3 4
  have HF : Hid (∀ j, w.heap.size ≤ j → ¬ fp k j) := by
    obtain ⟨_, _, H, _⟩ := hA
    exact fun j hj hf => by have := H.lt j hf; omega
  obtain ⟨W, hWd⟩ : ∃ W, W = (((w.alloc (.cells #[.pointer (some ⟨k.p, 0, none⟩)] 24)).alloc (.cells #[.int .i64 i] 3)).alloc (.cells #[.bool b] 4)) := ⟨_, rfl⟩
  rw [← hWd] at hb3 x0 x1 x2
  have hsW : W.heap.size = w.heap.size + 3 := by rw [hWd]; simp
  have hbl := below_wide hb3 (bel_one W (.cells #[.int .i64 f] 3))
  have HC := hide (check_any k s [(f : Int)] W.heap.size _ (hA.below hbl) (cells1 W f) (by simp; omega) (by simp))
  rw [show [(f : Int)].length = 1 from rfl, gvn_all (s := s) (l := [(f : Int)]) (by simp [g1]), hsW] at HC
  have hbl2 := below_wide hbl (bel_one (W.alloc (.cells #[.int .i64 f] 3)) (.cells #[.int .i64 i] 3))
  have HK := hide (known_any k s _ 1 [(i : Int)] _ (hA.below hbl2) (src1 _ _) (by simp [maxLen]))
  rw [show [(i : Int)].length = 1 from rfl, show knownB s.vs [(i : Int)] = true by (unfold knownB outB; simp; omega), show (W.alloc (.cells #[.int .i64 f] 3)).heap.size = w.heap.size + 3 + 1 by simp [hsW]] at HK
  have y0 : (W.alloc (.cells #[.int .i64 f] 3)).cell? ⟨w.heap.size, 0, none⟩ = some (.pointer (some ⟨k.p, 0, none⟩)) := cell_heap (heap_old x0) rfl
  have y1 : (W.alloc (.cells #[.int .i64 f] 3)).cell? ⟨w.heap.size + 1, 0, none⟩ = some (.int .i64 i) := cell_heap (heap_old x1) rfl
  have HBL2 := hide hbl2
  have HA := hide hA
  have HD := hide d
  have HAD := hide ad
  have HX0 := hide (heap_old (p := .cells #[.int .i64 i] 3) (heap_old (p := .cells #[.int .i64 f] 3) x0))
  have HX1 := hide (heap_old (p := .cells #[.int .i64 i] 3) (heap_old (p := .cells #[.int .i64 f] 3) x1))
  have HX2 := hide (heap_old (p := .cells #[.int .i64 i] 3) (heap_old (p := .cells #[.int .i64 f] 3) x2))
  have HS := hide hsW
  have y9 : W.cell? ⟨w.heap.size, 0, none⟩ = some (.pointer (some ⟨k.p, 0, none⟩)) := cell_heap x0 rfl
  generalize hR : nS S t * 2 ^ (nS S t + 2) + 2 = R at *
  have HR := hide hR
  clear hA g1 d hbl hbl2 ad hb3 x0 x1 x2 hsW hR
  subst hWd
  go_enter Try.func23, Try.ntmps23
  go_wp2_with fail
  refine HC.out.mono ?_
  rintro e w1 ⟨rfl, rfl⟩
  go_wp2_with fail
  refine HK.out.mono ?_
  rintro e w2 ⟨rfl, hb⟩
  have z0 := heapB hb HX0.out
  have z1 := heapB hb HX1.out
  have z2 := heapB hb HX2.out
  have hb2 := (below_wide HBL2.out hb).drew
  have hA2 := HA.out.below hb2
  have k2 : w2.drew.cell? ⟨w.heap.size, 0, none⟩ = some (.pointer (some ⟨k.p, 0, none⟩)) := cell_heap z0 rfl
  have HE := hide (each_any S (fun _ => S) leB (resT i b) k s _ _ f t F w2.drew hA2 HD.out (restrict_made S s.nd k _ i b (w.heap.size + 1) w.heap.size (w.heap.size + 1 + 1) (by omega) (cell_heap z1 rfl) k2 (cell_heap z2 rfl) (HF.out _ (by omega)) (HF.out _ (by omega)) (HF.out _ (by omega))) call_restrict (Nat.le_refl _) (by funext ρ; rfl) (by funext ρ; rfl) (by have := HR.out; omega))
  rw [HR.out] at HE
  have hmR : s.m + R ≤ 1000000000 := by have := HR.out; omega
  have HB2 := hide hb2
  have hnf := HF.out w.heap.size (by omega)
  have hlt : w.heap.size < w2.drew.heap.size := lt_of_cell k2
  clear hb hA2 z0 z1 z2 HX0 HX1 HX2 HC HK y0 y1 y9 hb2
  have hwr : IntKind.i32.wrap (f : Int) = f := wrap3 (by omega) (by omega)
  go_wp2_with fail
  go_region_held3 (fun w' => w'.cell? ⟨w.heap.size, 0, none⟩ = some (.pointer (some ⟨k.p, 0, none⟩)))
    (first | exact k2 | exact k3 | exact k4)
    (first
      | (go_at_call 38; (with_reducible refine HE.out.mono ?_); intro e w3 hh; unfold NodeOut at hh; obtain ⟨k1, s1, r, he, hA3, T3, U3, m3, o3⟩ := hh; subst he; have k3 := T3.cell k2 hnf; have HA3 := hide hA3; have HT3 := hide T3; have HU3 := hide U3; have HM3 := hide m3; have HO3 := hide o3; clear hA3 T3 U3 m3 o3)
      | (go_at_call 37; (with_reducible refine (give_call HA3.out HO3.out HM3.out hmR HU3.out HAD.out HT3.out.p).mono ?_); intro e w4 hg; obtain ⟨x, y, he, T4⟩ := give_two hg; subst he; have k4 := T4.cell k3 (HT3.out.fpn hlt hnf); have HX := hide (api_call HU3.out HM3.out HO3.out ((Turn.below (k := k) HB2.out).trans HT3.out) HA3.out.wf hg); clear hg T4))
  all_goals (
    go_wp2_with fail
    go_ret2
    exact HX.out)
end Go.Proofs.Ytgfjdkkfgclhjaa.Bd
