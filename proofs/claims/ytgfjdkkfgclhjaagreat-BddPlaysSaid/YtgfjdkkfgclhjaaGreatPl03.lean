/- What the claim leans on, part 3 of 13: BR BS BU BV BW DQ BX BY CA CB CC ZL DR. -/
import Derived.Lib.AppendIntMem
import Derived.Lib.OwnBridge
import Derived.Lib.SlicesCompact
import Derived.Sort.OwnSortedInts
import Derived.Test.YtgfjdkkfgclhjaaGreatPl01
import Derived.Test.YtgfjdkkfgclhjaaGreatPl02
import Derived.Test.YtgfjdkkfgclhjaaGreatShelf
/- Restrict. -/
namespace Go.Proofs.YtgfjdkkfgclhjaaGreat.Bd
open Go.RowKit Go.Proofs.YtgfjdkkfgclhjaaGreat Go.Proofs.YtgfjdkkfgclhjaaGreat.Lx Go.Maps

theorem call_restrict (xs : Array Value) (w : World) : (callFunc 75 xs).run Tryz.prog w = .ok (.enter 75 xs) w :=
  call_enter Tryz.func75 (by kernel_rfl) (by kernel_rfl) xs w
theorem pow_four (n : Nat) : 4 ≤ 2 ^ (n + 2) := by have := Nat.one_le_two_pow (n := n); rw [Nat.pow_succ, Nat.pow_succ]; omega
def resT (i : Nat) (b : Bool) (F : Env → Bool) : Env → Bool := fun ρ => F (upd ρ i b)
def leB (t t' : Nat) : Prop := t ≤ t'
set_option maxHeartbeats 1000000 in
set_option maxRecDepth 100000 in
theorem restrict_made (S : Nat → Bool) (nd0 : List Nd) (k0 : Blk) (w0 : World) (i : Nat) (b : Bool) (b1 b2 b3 : Nat) (hi : i < 256) (c1 : w0.cell? ⟨b1, 0, none⟩ = some (.int .i64 i)) (c2 : w0.cell? ⟨b2, 0, none⟩ = some (.pointer (some ⟨k0.p, 0, none⟩))) (c3 : w0.cell? ⟨b3, 0, none⟩ = some (.bool b)) (n1 : ¬ fp k0 b1) (n2 : ¬ fp k0 b2) (n3 : ¬ fp k0 b3) :
    MadeOK S nd0 (fun _ => S) leB (resT i b) k0 w0 75 #[.pointer (some ⟨b1, 0, none⟩), .pointer (some ⟨b2, 0, none⟩), .pointer (some ⟨b3, 0, none⟩)] := by
  intro k s w v tl th r1 r2 t1 t2 Fl Fh T0 hA hex hv hS h1 h2 l1 d1 l2 d2 i1 i2 hm
  have hp := pow_four (nS S v)
  have e1 := T0.cell c1 n1
  have e2 := T0.cell c2 n2
  have e3 := T0.cell c3 n3
  rw [← T0.p] at e2
  unfold leB at l1 l2
  generalize 2 ^ (nS S v + 2) = R at *
  show Calls Tryz.prog 75 #[.int .i32 v, .int .i32 r1, .int .i32 r2, .pointer (some ⟨b1, 0, none⟩), .pointer (some ⟨b2, 0, none⟩), .pointer (some ⟨b3, 0, none⟩)] w _
  cases hd : ((v : Int) != i)
  · have hvi : v = i := by have := bne_f hd; omega
    subst hvi
    cases b
    · have HX := hide (show NodeOut k s w R (fun nd' r => ∃ t', leB v t' ∧ Den S nd' r t' (resT v false (fun ρ => if ρ v then Fh ρ else Fl ρ))) (.returned (.int .i32 (r1 : Nat))) w from
        ⟨k, s, r1, rfl, hA, Turn.refl _ _, Up.refl _, by omega, t1, by unfold leB; omega, by
          have e : resT v false (fun ρ => if ρ v then Fh ρ else Fl ρ) = resT v false Fl := by funext ρ; unfold resT; simp only [upd_same, Bool.false_eq_true, if_false]
          rw [e]; exact d1⟩)
      clear hA T0 d1 d2 i1 i2 hex
      go_enter Tryz.func75, Tryz.ntmps75
      go_wp2_with fail
      go_ret
      exact HX.out
    · have HX := hide (show NodeOut k s w R (fun nd' r => ∃ t', leB v t' ∧ Den S nd' r t' (resT v true (fun ρ => if ρ v then Fh ρ else Fl ρ))) (.returned (.int .i32 (r2 : Nat))) w from
        ⟨k, s, r2, rfl, hA, Turn.refl _ _, Up.refl _, by omega, t2, by unfold leB; omega, by
          have e : resT v true (fun ρ => if ρ v then Fh ρ else Fl ρ) = resT v true Fh := by funext ρ; unfold resT; simp only [upd_same, if_true]
          rw [e]; exact d2⟩)
      clear hA T0 d1 d2 i1 i2 hex
      go_enter Tryz.func75, Tryz.ntmps75
      go_wp2_with fail
      go_ret
      exact HX.out
  · have hvi : v ≠ i := by have := bne_t hd; omega
    have HM := hide (mk_any k s v r1 r2 w hA (by omega) S t1 t2 _ _ d1 d2 (by omega) (by omega) hv hS)
    have HQ : Hid (∀ (e : Ending) (w' : World), (∃ k' s' r, e = .returned (.int .i32 (r : Nat)) ∧ Ar w' k' s' ∧ Turn k k' w w' ∧ Up s s' ∧ s'.m ≤ s.m + 1 ∧ OkMk s.nd s'.nd v r1 r2 r) → ∃ r : Nat, e = .returned (.int .i32 (r : Nat)) ∧ NodeOut k s w R (fun nd' r => ∃ t', leB v t' ∧ Den S nd' r t' (resT i b (fun ρ => if ρ v then Fh ρ else Fl ρ))) (.returned (.int .i32 (r : Nat))) w') := by
      rintro e w' ⟨k', s', r, he, hA', hT', hU', hm', ho⟩
      refine ⟨r, he, k', s', r, rfl, hA', hT', hU', by omega, ?_⟩
      obtain ⟨t', ht, d⟩ := ho S _ _ _ _ hS d1 d2
      have e : resT i b (fun ρ => if ρ v then Fh ρ else Fl ρ) = fun ρ => if ρ v then resT i b Fh ρ else resT i b Fl ρ := by
        funext ρ; unfold resT; simp only [upd_other ρ b hvi]
      exact ⟨t', ht, by rw [e]; exact d⟩
    clear hA T0 d1 d2 i1 i2 hex
    go_enter Tryz.func75, Tryz.ntmps75
    go_wp2_with fail
    refine HM.out.mono ?_
    intro e w1 hh
    obtain ⟨r, rfl, hN⟩ := HQ.out e w1 hh
    have HN := hide hN
    clear hN hh
    go_wp2_with fail
    go_ret
    exact HN.out
theorem wrap3 {x : Int} (h : -2147483648 ≤ x) (h2 : x < 2147483648) : IntKind.i32.wrap x = x := by
  simp [IntKind.wrap, IntKind.bits, IntKind.signed, Int.bmod_def]
  omega
theorem cells1 (w : World) (a : Int) : ∀ (j : Nat) (x : Int), [a][j]? = some x → (w.alloc (.cells #[.int .i64 a] 3)).cell? ⟨w.heap.size, j, none⟩ = some (.int .i64 x) := by
  intro j x hx
  refine cell_heap (heap_new _ _) ?_
  match j, hx with
  | 0, hx => simpa using hx
  | j + 1, hx => simp at hx
theorem src1 (w : World) (a : Int) : Src (w.alloc (.cells #[.int .i64 a] 3)) (some ⟨w.heap.size, 0, none⟩) 1 1 1 ([a].map encI) := by
  refine ⟨rfl, .inr ⟨_, rfl, fun j u hu => ?_⟩⟩
  match j, hu with
  | 0, hu => simp at hu; subst hu; exact cell_heap (j := 0) (heap_new _ _) rfl
  | j + 1, hu => simp at hu
theorem box3 (w : World) (a b c : Value) (ta tb tc : TypeId) : Below w.heap.size w (((w.alloc (.cells #[a] ta)).alloc (.cells #[b] tb)).alloc (.cells #[c] tc)) ∧ (((w.alloc (.cells #[a] ta)).alloc (.cells #[b] tb)).alloc (.cells #[c] tc)).heap[w.heap.size]? = some (.cells #[a] ta (0, 0)) ∧ (((w.alloc (.cells #[a] ta)).alloc (.cells #[b] tb)).alloc (.cells #[c] tc)).heap[w.heap.size + 1]? = some (.cells #[b] tb (0, 0)) ∧ (((w.alloc (.cells #[a] ta)).alloc (.cells #[b] tb)).alloc (.cells #[c] tc)).heap[w.heap.size + 1 + 1]? = some (.cells #[c] tc (0, 0)) := by
  refine ⟨((((Below.refl _ w).alloc (Nat.le_refl _) _).alloc (by simp) _).alloc (by simp; omega) _), heap_old (heap_old (heap_new _ _)), ?_, ?_⟩
  · have := heap_new (w.alloc (.cells #[a] ta)) (.cells #[b] tb)
    rw [show (w.alloc (.cells #[a] ta)).heap.size = w.heap.size + 1 by simp] at this
    exact heap_old this
  · have := heap_new ((w.alloc (.cells #[a] ta)).alloc (.cells #[b] tb)) (.cells #[c] tc)
    rw [show ((w.alloc (.cells #[a] ta)).alloc (.cells #[b] tb)).heap.size = w.heap.size + 1 + 1 by simp] at this
    exact this
theorem give_two {k : Blk} {s : St} {r : Nat} {w w' : World} {e : Ending} (h : GiveOut k s r w e w') : ∃ x y : Int, e = .returned (.tuple #[.int .i64 x, .int .i64 y]) ∧ Turn k k w w' := by
  rcases h with ⟨_, h2, _, h4⟩ | ⟨_, h2, _, h4⟩
  · exact ⟨_, _, h2, h4⟩
  · exact ⟨_, _, h2, h4⟩
theorem give_call {k k1 : Blk} {s s1 : St} {r R : Nat} {w : World} {S : Nat → Bool} {G : Env → Bool} {P : Nat → Prop} (hA : Ar w k1 s1) (hr : ∃ t', P t' ∧ Den S s1.nd r t' G) (hm : s1.m + 2 ≤ s.m + R) (hm2 : s.m + R ≤ 1000000000) (U : Up s s1) (ad : Adm s) (hp : k1.p = k.p) :
    Calls Tryz.prog 71 #[.pointer (some ⟨k.p, 0, none⟩), .int .i32 r] w (GiveOut k1 s1 r w) := by
  obtain ⟨t', _, d⟩ := hr
  rw [← hp]
  exact give_up hA (d.lt hA.wf) (by omega) U ad
theorem api_call {k k1 : Blk} {s s1 : St} {r R : Nat} {w w1 w2 : World} {e : Ending} {S : Nat → Bool} {G : Env → Bool} {P : Nat → Prop} (U : Up s s1) (hm : s1.m + 2 ≤ s.m + R) (ho : ∃ t', P t' ∧ Den S s1.nd r t' G) (T : Turn k k1 w w1) (hw : WF s1.nd) (h : GiveOut k1 s1 r w1 e w2) : ApiOut k s w R (fun nd' r => ∃ t', P t' ∧ Den S nd' r t' G) e w2 := by
  have hr : r < s1.nd.length := by obtain ⟨t', _, d⟩ := ho; exact d.lt hw
  exact api_of U hm ho T hw hr h
set_option maxHeartbeats 2000000 in
set_option maxRecDepth 100000 in
theorem Restrict_any (S : Nat → Bool) (k : Blk) (s : St) (f i t : Nat) (b : Bool) (F : Env → Bool) (w : World) (hA : Ar w k s) (ad : Adm s) (g1 : s.gi f = true) (d : Den S s.nd f t F) (hi : i < s.vs) (hm : s.m + nS S t * 2 ^ (nS S t + 2) + 2 ≤ 1000000000) :
    Calls Tryz.prog 60 #[.pointer (some ⟨k.p, 0, none⟩), .int .i64 f, .int .i64 i, .bool b] w (ApiOut k s w (nS S t * 2 ^ (nS S t + 2) + 2) (fun nd' r => ∃ t', leB t t' ∧ Den S nd' r t' (resT i b F))) := by
  have hW := hA.wf
  have hnm := hA.nm
  have l1 := d.lt hW
  have hvs := ad.vs
  obtain ⟨hb3, x0, x1, x2⟩ := box3 w (.pointer (some ⟨k.p, 0, none⟩)) (.int .i64 i) (.bool b) 24 3 4
  have HF : Hid (∀ j, w.heap.size ≤ j → ¬ fp k j) := by
    obtain ⟨_, _, H, _⟩ := hA
    exact fun j hj hf => by have := H.lt j hf; omega
  obtain ⟨W, hWd⟩ : ∃ W, W = (((w.alloc (.cells #[.pointer (some ⟨k.p, 0, none⟩)] 24)).alloc (.cells #[.int .i64 i] 3)).alloc (.cells #[.bool b] 4)) := ⟨_, rfl⟩
  rw [← hWd] at hb3 x0 x1 x2
  have hsW : W.heap.size = w.heap.size + 3 := by rw [hWd]; simp
  have hbl := below_wide hb3 (bel_one W (.cells #[.int .i64 f] 3))
  have HC := hide (check_any k s [(f : Int)] W.heap.size _ (hA.below hbl) (cells1 W f) (by simp; omega) (by simp))
  rw [show [(f : Int)].length = 1 from rfl, gvn_all (s := s) (l := [(f : Int)]) (by simp [g1]), hsW] at HC
  have hbl2 := below_wide hbl (bel_one (W.alloc (.cells #[.int .i64 f] 3)) (.cells #[.int .i64 i] 3))
  have HK := hide (known_any k s _ 1 [(i : Int)] _ (hA.below hbl2) (src1 _ _) (by simp [maxLen]))
  rw [show [(i : Int)].length = 1 from rfl, show knownB s.vs [(i : Int)] = true by (unfold knownB outB; simp; omega), show (W.alloc (.cells #[.int .i64 f] 3)).heap.size = w.heap.size + 3 + 1 by simp [hsW]] at HK
  have y0 : (W.alloc (.cells #[.int .i64 f] 3)).cell? ⟨w.heap.size, 0, none⟩ = some (.pointer (some ⟨k.p, 0, none⟩)) := cell_heap (heap_old x0) rfl
  have y1 : (W.alloc (.cells #[.int .i64 f] 3)).cell? ⟨w.heap.size + 1, 0, none⟩ = some (.int .i64 i) := cell_heap (heap_old x1) rfl
  have HBL2 := hide hbl2
  have HA := hide hA
  have HD := hide d
  have HAD := hide ad
  have HX0 := hide (heap_old (p := .cells #[.int .i64 i] 3) (heap_old (p := .cells #[.int .i64 f] 3) x0))
  have HX1 := hide (heap_old (p := .cells #[.int .i64 i] 3) (heap_old (p := .cells #[.int .i64 f] 3) x1))
  have HX2 := hide (heap_old (p := .cells #[.int .i64 i] 3) (heap_old (p := .cells #[.int .i64 f] 3) x2))
  have HS := hide hsW
  have y9 : W.cell? ⟨w.heap.size, 0, none⟩ = some (.pointer (some ⟨k.p, 0, none⟩)) := cell_heap x0 rfl
  generalize hR : nS S t * 2 ^ (nS S t + 2) + 2 = R at *
  have HR := hide hR
  clear hA g1 d hbl hbl2 ad hb3 x0 x1 x2 hsW hR
  subst hWd
  go_enter Tryz.func60, Tryz.ntmps60
  go_wp2_with fail
  refine HC.out.mono ?_
  rintro e w1 ⟨rfl, rfl⟩
  go_wp2_with fail
  refine HK.out.mono ?_
  rintro e w2 ⟨rfl, hb⟩
  have z0 := heapB hb HX0.out
  have z1 := heapB hb HX1.out
  have z2 := heapB hb HX2.out
  have hb2 := (below_wide HBL2.out hb).drew
  have hA2 := HA.out.below hb2
  have k2 : w2.drew.cell? ⟨w.heap.size, 0, none⟩ = some (.pointer (some ⟨k.p, 0, none⟩)) := cell_heap z0 rfl
  have HE := hide (each_any S (fun _ => S) leB (resT i b) k s _ _ f t F w2.drew hA2 HD.out (restrict_made S s.nd k _ i b (w.heap.size + 1) w.heap.size (w.heap.size + 1 + 1) (by omega) (cell_heap z1 rfl) k2 (cell_heap z2 rfl) (HF.out _ (by omega)) (HF.out _ (by omega)) (HF.out _ (by omega))) call_restrict (Nat.le_refl _) (by funext ρ; rfl) (by funext ρ; rfl) (by have := HR.out; omega))
  rw [HR.out] at HE
  have hmR : s.m + R ≤ 1000000000 := by have := HR.out; omega
  have HB2 := hide hb2
  have hnf := HF.out w.heap.size (by omega)
  have hlt : w.heap.size < w2.drew.heap.size := lt_of_cell k2
  clear hb hA2 z0 z1 z2 HX0 HX1 HX2 HC HK y0 y1 y9 hb2
  have hwr : IntKind.i32.wrap (f : Int) = f := wrap3 (by omega) (by omega)
  go_wp2_with fail
  go_region_held3 (fun w' => w'.cell? ⟨w.heap.size, 0, none⟩ = some (.pointer (some ⟨k.p, 0, none⟩)))
    (first | exact k2 | exact k3 | exact k4)
    (first
      | (go_at_call 74; (with_reducible refine HE.out.mono ?_); intro e w3 hh; unfold NodeOut at hh; obtain ⟨k1, s1, r, he, hA3, T3, U3, m3, o3⟩ := hh; subst he; have k3 := T3.cell k2 hnf; have HA3 := hide hA3; have HT3 := hide T3; have HU3 := hide U3; have HM3 := hide m3; have HO3 := hide o3; clear hA3 T3 U3 m3 o3)
      | (go_at_call 71; (with_reducible refine (give_call HA3.out HO3.out HM3.out hmR HU3.out HAD.out HT3.out.p).mono ?_); intro e w4 hg; obtain ⟨x, y, he, T4⟩ := give_two hg; subst he; have k4 := T4.cell k3 (HT3.out.fpn hlt hnf); have HX := hide (api_call HU3.out HM3.out HO3.out ((Turn.below (k := k) HB2.out).trans HT3.out) HA3.out.wf hg); clear hg T4))
  all_goals (
    go_wp2_with fail
    go_ret2
    exact HX.out)
end Go.Proofs.YtgfjdkkfgclhjaaGreat.Bd
/- over, Exists, Forall. -/
namespace Go.Proofs.YtgfjdkkfgclhjaaGreat.Bd
open Go.RowKit Go.Proofs.YtgfjdkkfgclhjaaGreat Go.Proofs.YtgfjdkkfgclhjaaGreat.Lx Go.Maps

/-- what is asked of a function that joins two parts -/
def JoinOK (S : Nat → Bool) (J : Bool → Bool → Bool) (k0 : Blk) (w0 : World) (M : FuncId) (caps : Array Value) : Prop :=
  ∀ (k : Blk) (s : St) (w : World) (r1 r2 t1 t2 : Nat) (G H : Env → Bool), Turn k0 k w0 w → Ar w k s → Den S s.nd r1 t1 G → Den S s.nd r2 t2 H → s.m + 2 ^ (nS S (min t1 t2) + 1) ≤ 1000000000 →
    Calls Tryz.prog M (#[.int .i32 r1, .int .i32 r2] ++ caps) w (NodeOut k s w (2 ^ (nS S (min t1 t2) + 1)) (fun nd' r => ∃ t', min t1 t2 ≤ t' ∧ Den S nd' r t' (fun ρ => J (G ρ) (H ρ))))
theorem JoinOK.turn {S : Nat → Bool} {J : Bool → Bool → Bool} {k0 k1 : Blk} {w0 w1 : World} {M : FuncId} {caps : Array Value} (h : JoinOK S J k0 w0 M caps) (T : Turn k0 k1 w0 w1) : JoinOK S J k1 w1 M caps :=
  fun k s w r1 r2 t1 t2 G H T1 => h k s w r1 r2 t1 t2 G H (T.trans T1)
theorem call_exists (xs : Array Value) (w : World) : (callFunc 77 xs).run Tryz.prog w = .ok (.enter 77 xs) w :=
  call_enter Tryz.func77 (by kernel_rfl) (by kernel_rfl) xs w
theorem call_forall (xs : Array Value) (w : World) : (callFunc 78 xs).run Tryz.prog w = .ok (.enter 78 xs) w :=
  call_enter Tryz.func78 (by kernel_rfl) (by kernel_rfl) xs w
theorem call_over (xs : Array Value) (w : World) : (callFunc 96 xs).run Tryz.prog w = .ok (.enter 96 xs) w :=
  call_enter Tryz.func96 (by kernel_rfl) (by kernel_rfl) xs w
set_option maxRecDepth 100000 in
theorem exists_join (S : Nat → Bool) (k0 : Blk) (w0 : World) (b : Nat) (c : w0.cell? ⟨b, 0, none⟩ = some (.pointer (some ⟨k0.p, 0, none⟩))) (n : ¬ fp k0 b) : JoinOK S (fun a b => a || b) k0 w0 77 #[.pointer (some ⟨b, 0, none⟩)] := by
  intro k s w r1 r2 t1 t2 G H T hA d1 d2 hm
  have e1 := T.cell c n
  rw [← T.p] at e1
  have h1 := d1.top.1
  have h2 := d2.top.1
  have et : min t1 (min 256 t2) = min t1 t2 := by omega
  have HI := hide (ite_any S k s r1 1 r2 t1 256 t2 G _ H w hA d1 .one d2 (by rw [et]; exact hm))
  rw [et] at HI
  have HQ : Hid (∀ (e : Ending) (w' : World), NodeOut k s w (2 ^ (nS S (min t1 t2) + 1)) (fun nd' r => OkIte s.nd nd' r1 1 r2 r) e w' → ∃ r : Nat, e = .returned (.int .i32 (r : Nat)) ∧ NodeOut k s w (2 ^ (nS S (min t1 t2) + 1)) (fun nd' r => ∃ t', min t1 t2 ≤ t' ∧ Den S nd' r t' (fun ρ => G ρ || H ρ)) (.returned (.int .i32 (r : Nat))) w') := by
    rintro e w' ⟨k', s', r, he, hA', hT', hU', hm', ho⟩
    refine ⟨r, he, k', s', r, rfl, hA', hT', hU', hm', ?_⟩
    obtain ⟨t', ht, d⟩ := ho S _ _ _ _ _ _ d1 .one d2
    have e : (fun ρ => G ρ || H ρ) = fun ρ => if G ρ then true else H ρ := by funext ρ; cases G ρ <;> simp
    exact ⟨t', by omega, by rw [e]; exact d⟩
  clear hA T d1 d2 hm
  show Calls Tryz.prog 77 #[.int .i32 r1, .int .i32 r2, .pointer (some ⟨b, 0, none⟩)] w _
  generalize 2 ^ (nS S (min t1 t2) + 1) = R at *
  go_enter Tryz.func77, Tryz.ntmps77
  go_wp2_with fail
  refine HI.out.mono ?_
  intro e w1 hh
  obtain ⟨r, rfl, hN⟩ := HQ.out e w1 hh
  have HN := hide hN
  clear hN hh
  go_wp2_with fail
  go_ret
  exact HN.out
set_option maxRecDepth 100000 in
theorem forall_join (S : Nat → Bool) (k0 : Blk) (w0 : World) (b : Nat) (c : w0.cell? ⟨b, 0, none⟩ = some (.pointer (some ⟨k0.p, 0, none⟩))) (n : ¬ fp k0 b) : JoinOK S (fun a b => a && b) k0 w0 78 #[.pointer (some ⟨b, 0, none⟩)] := by
  intro k s w r1 r2 t1 t2 G H T hA d1 d2 hm
  have e1 := T.cell c n
  rw [← T.p] at e1
  have h1 := d1.top.1
  have h2 := d2.top.1
  have et : min t1 (min t2 256) = min t1 t2 := by omega
  have HI := hide (ite_any S k s r1 r2 0 t1 t2 256 G H _ w hA d1 d2 .zero (by rw [et]; exact hm))
  rw [et] at HI
  have HQ : Hid (∀ (e : Ending) (w' : World), NodeOut k s w (2 ^ (nS S (min t1 t2) + 1)) (fun nd' r => OkIte s.nd nd' r1 r2 0 r) e w' → ∃ r : Nat, e = .returned (.int .i32 (r : Nat)) ∧ NodeOut k s w (2 ^ (nS S (min t1 t2) + 1)) (fun nd' r => ∃ t', min t1 t2 ≤ t' ∧ Den S nd' r t' (fun ρ => G ρ && H ρ)) (.returned (.int .i32 (r : Nat))) w') := by
    rintro e w' ⟨k', s', r, he, hA', hT', hU', hm', ho⟩
    refine ⟨r, he, k', s', r, rfl, hA', hT', hU', hm', ?_⟩
    obtain ⟨t', ht, d⟩ := ho S _ _ _ _ _ _ d1 d2 .zero
    have e : (fun ρ => G ρ && H ρ) = fun ρ => if G ρ then H ρ else false := by funext ρ; cases G ρ <;> simp
    exact ⟨t', by omega, by rw [e]; exact d⟩
  clear hA T d1 d2 hm
  show Calls Tryz.prog 78 #[.int .i32 r1, .int .i32 r2, .pointer (some ⟨b, 0, none⟩)] w _
  generalize 2 ^ (nS S (min t1 t2) + 1) = R at *
  go_enter Tryz.func78, Tryz.ntmps78
  go_wp2_with fail
  refine HI.out.mono ?_
  intro e w1 hh
  obtain ⟨r, rfl, hN⟩ := HQ.out e w1 hh
  have HN := hide hN
  clear hN hh
  go_wp2_with fail
  go_ret
  exact HN.out
/-- the array of 256 bools -/
def Flags (w : World) (b : Nat) (O : Nat → Bool) : Prop := ∃ cur : Array Value, w.heap[b]? = some (.cells cur 138 (0, 0)) ∧ ∀ j, j < 256 → cur[j]? = some (.bool (O j))
theorem Flags.cell {w : World} {b : Nat} {O : Nat → Bool} (h : Flags w b O) {j : Nat} (hj : j < 256) : w.cell? ⟨b, j, none⟩ = some (.bool (O j)) := by
  obtain ⟨cur, h1, h2⟩ := h
  exact cell_heap h1 (h2 j hj)
theorem Flags.put {w : World} {b : Nat} {O : Nat → Bool} (h : Flags w b O) {x : Nat} : Flags (w.setCell ⟨b, x, none⟩ (.bool true)) b (fun y => decide (y = x) || O y) := by
  obtain ⟨cur, h1, h2⟩ := h
  refine ⟨cur.setIfInBounds x (.bool true), heap_set h1, fun j hj => ?_⟩
  have := h2 j hj
  by_cases e : j = x
  · subst e
    have hlt : j < cur.size := by
      rcases Nat.lt_or_ge j cur.size with h' | h'
      · exact h'
      · rw [Array.getElem?_eq_none h'] at this; cases this
    simp [Array.getElem?_setIfInBounds, hlt]
  · rw [Array.getElem?_setIfInBounds_ne (Ne.symm e), this]
    simp [e]
theorem Flags.kept {w w' : World} {b : Nat} {O : Nat → Bool} (h : Flags w b O) (hb : w'.heap[b]? = w.heap[b]?) : Flags w' b O := by
  obtain ⟨cur, h1, h2⟩ := h
  exact ⟨cur, hb.trans h1, h2⟩

set_option maxHeartbeats 2000000 in
set_option maxRecDepth 100000 in
theorem over_made (S : Nat → Bool) (J : Bool → Bool → Bool) (hJ : Joins J) (O : Nat → Bool) (nd0 : List Nd) (k0 : Blk) (w0 : World) (M : FuncId) (caps : Array Value) (b1 b2 b3 : Nat) (hcall : ∀ (xs : Array Value) (w : World), (callFunc M xs).run Tryz.prog w = .ok (.enter M xs) w) (hF : Flags w0 b1 O) (c2 : w0.cell? ⟨b2, 0, none⟩ = some (.func (.func M) #[] caps)) (c3 : w0.cell? ⟨b3, 0, none⟩ = some (.pointer (some ⟨k0.p, 0, none⟩)))
    (n1 : ¬ fp k0 b1) (n2 : ¬ fp k0 b2) (n3 : ¬ fp k0 b3) (HJ : JoinOK S J k0 w0 M caps) :
    MadeOK S nd0 (fun _ => S) leB (overT J O) k0 w0 96 #[.pointer (some ⟨b1, 0, none⟩), .pointer (some ⟨b2, 0, none⟩), .pointer (some ⟨b3, 0, none⟩)] := by
  intro k s w v tl th r1 r2 t1 t2 Fl Fh T0 hA hex hv hS h1 h2 l1 d1 l2 d2 i1 i2 hm
  have hp := pow_four (nS S v)
  have lt1 : b1 < w0.heap.size := lt_of_cell (hF.cell (j := 0) (by omega))
  have e1 := (hF.kept (T0.block _ lt1 n1)).cell hv
  have e2 := T0.cell c2 n2
  have e3 := T0.cell c3 n3
  rw [← T0.p] at e3
  unfold leB at l1 l2
  have eT := overT_node hJ (O := O) hv i1 i2
  show Calls Tryz.prog 96 #[.int .i32 v, .int .i32 r1, .int .i32 r2, .pointer (some ⟨b1, 0, none⟩), .pointer (some ⟨b2, 0, none⟩), .pointer (some ⟨b3, 0, none⟩)] w _
  rw [eT]
  cases hO : O v
  · simp only [Bool.false_eq_true, if_false]
    rw [hO] at e1
    have HM := hide (mk_any k s v r1 r2 w hA (by omega) S t1 t2 _ _ d1 d2 (by omega) (by omega) hv hS)
    generalize 2 ^ (nS S v + 2) = R at *
    have HQ : Hid (∀ (e : Ending) (w' : World), (∃ k' s' r, e = .returned (.int .i32 (r : Nat)) ∧ Ar w' k' s' ∧ Turn k k' w w' ∧ Up s s' ∧ s'.m ≤ s.m + 1 ∧ OkMk s.nd s'.nd v r1 r2 r) → ∃ r : Nat, e = .returned (.int .i32 (r : Nat)) ∧ NodeOut k s w R (fun nd' r => ∃ t', leB v t' ∧ Den S nd' r t' (fun ρ => if ρ v then overT J O Fh ρ else overT J O Fl ρ)) (.returned (.int .i32 (r : Nat))) w') := by
      rintro e w' ⟨k', s', r, he, hA', hT', hU', hm', ho⟩
      refine ⟨r, he, k', s', r, rfl, hA', hT', hU', by omega, ?_⟩
      obtain ⟨t', ht, d⟩ := ho S _ _ _ _ hS d1 d2
      exact ⟨t', ht, d⟩
    clear hA T0 d1 d2 i1 i2 hex hF HJ eT hcall e2
    go_enter Tryz.func96, Tryz.ntmps96
    go_wp2_with fail
    refine HM.out.mono ?_
    intro e w1 hh
    obtain ⟨r, rfl, hN⟩ := HQ.out e w1 hh
    have HN := hide hN
    clear hN hh
    go_wp2_with fail
    go_ret
    exact HN.out
  · simp only [if_true]
    rw [hO] at e1
    have hst := nS_step S hv
    rw [hS, if_pos rfl] at hst
    have hle := nS_le S (show v + 1 ≤ min t1 t2 by omega)
    have hpw : 2 ^ (nS S (min t1 t2) + 1) ≤ 2 ^ (nS S v + 2) := Nat.pow_le_pow_right (by omega) (by omega)
    have HM := hide (HJ k s w r1 r2 t1 t2 _ _ T0 hA d1 d2 (by omega))
    generalize 2 ^ (nS S v + 2) = R at *
    generalize 2 ^ (nS S (min t1 t2) + 1) = R2 at *
    have HQ : Hid (∀ (e : Ending) (w' : World), NodeOut k s w R2 (fun nd' r => ∃ t', min t1 t2 ≤ t' ∧ Den S nd' r t' (fun ρ => J (overT J O Fl ρ) (overT J O Fh ρ))) e w' → ∃ r : Nat, e = .returned (.int .i32 (r : Nat)) ∧ NodeOut k s w R (fun nd' r => ∃ t', leB v t' ∧ Den S nd' r t' (fun ρ => J (overT J O Fl ρ) (overT J O Fh ρ))) (.returned (.int .i32 (r : Nat))) w') := by
      rintro e w' ⟨k', s', r, he, hA', hT', hU', hm', t', ht, d⟩
      exact ⟨r, he, k', s', r, rfl, hA', hT', hU', by omega, t', by unfold leB; omega, d⟩
    clear hA T0 d1 d2 i1 i2 hex hF HJ eT e3
    go_enter Tryz.func96, Tryz.ntmps96
    go_wp2_with ((with_reducible refine HM.out.mono ?_); intro e w1 hh; obtain ⟨r, he, hN⟩ := HQ.out e w1 hh; subst he; have HN := hide hN; clear hN hh)
    go_ret
    exact HN.out
end Go.Proofs.YtgfjdkkfgclhjaaGreat.Bd
/- over, whole; Exists, Forall. -/
namespace Go.Proofs.YtgfjdkkfgclhjaaGreat.Bd
open Go.RowKit Go.Proofs.YtgfjdkkfgclhjaaGreat Go.Proofs.YtgfjdkkfgclhjaaGreat.Lx Go.Maps

def encL (l : List Nat) : List Int := l.map fun (x : Nat) => (x : Int)
theorem encL_len (l : List Nat) : (encL l).length = l.length := by simp [encL]
theorem knownB_of {vs : Nat} {l : List Nat} (h : ∀ x ∈ l, x < vs) : knownB vs (encL l) = true := by
  unfold knownB
  rw [Bool.not_eq_true', List.any_eq_false]
  intro x hx
  obtain ⟨y, hy, rfl⟩ := List.mem_map.1 hx
  have := h y hy
  unfold outB
  simp
  omega
def memB (l : List Nat) : Nat → Bool := fun y => decide (y ∈ l)
theorem memB_next {l : List Nat} {i x : Nat} (hx : l[i]? = some x) : (fun y => decide (y = x) || memB (l.take i) y) = memB (l.take (i + 1)) := by
  funext y
  unfold memB
  rw [List.take_add_one, hx, ← Bool.decide_or]
  congr 1
  simp only [Option.toList_some, List.mem_append, List.mem_singleton, eq_iff_iff]
  constructor
  · rintro (h | h)
    · exact .inr h
    · exact .inl h
  · rintro (h | h)
    · exact .inr h
    · exact .inl h
theorem api_two {k : Blk} {s : St} {w w1 w2 : World} {R : Nat} {ok : List Nd → Nat → Prop} {e : Ending} (h : ApiOut k s w1 R ok e w2) (hb : Below w.heap.size w w1) : ∃ x y : Int, e = .returned (.tuple #[.int .i64 x, .int .i64 y]) ∧ ApiOut k s w R ok e w2 := by
  obtain ⟨k', s1, r, h1, h2, h3, h4, h5, h6, h7⟩ := h
  have hx : ApiOut k s w R ok e w2 := ⟨k', s1, r, h1, h2, h3, (Turn.below hb).trans h4, h5, h6, h7⟩
  rcases h7 with ⟨_, h8, _⟩ | ⟨_, h8, _⟩
  · exact ⟨_, _, h8, hx⟩
  · exact ⟨_, _, h8, hx⟩
theorem box2 (w : World) (a b : Value) (ta tb : TypeId) : Below w.heap.size w ((w.alloc (.cells #[a] ta)).alloc (.cells #[b] tb)) ∧ ((w.alloc (.cells #[a] ta)).alloc (.cells #[b] tb)).heap[w.heap.size]? = some (.cells #[a] ta (0, 0)) ∧ ((w.alloc (.cells #[a] ta)).alloc (.cells #[b] tb)).heap[w.heap.size + 1]? = some (.cells #[b] tb (0, 0)) := by
  refine ⟨(((Below.refl _ w).alloc (Nat.le_refl _) _).alloc (by simp) _), heap_old (heap_new _ _), ?_⟩
  have := heap_new (w.alloc (.cells #[a] ta)) (.cells #[b] tb)
  rw [show (w.alloc (.cells #[a] ta)).heap.size = w.heap.size + 1 by simp] at this
  exact this

theorem zeroFlags : Tryz.zeroCells138 = Array.replicate 256 (.bool false) := by kernel_rfl
theorem flags_new (w : World) : Flags (w.alloc (.cells Tryz.zeroCells138 138)) w.heap.size (memB []) := by
  refine ⟨_, heap_new _ _, fun j hj => ?_⟩
  rw [zeroFlags, Array.getElem?_replicate, if_pos hj]
  rfl
set_option maxHeartbeats 4000000 in
set_option maxRecDepth 100000 in
theorem over_any (S : Nat → Bool) (J : Bool → Bool → Bool) (hJ : Joins J) (k : Blk) (s : St) (f t : Nat) (F : Env → Bool) (A : Option Addr) (c : Nat) (l : List Nat) (M : FuncId) (caps : Array Value) (w : World) (hA : Ar w k s) (ad : Adm s) (g1 : s.gi f = true) (d : Den S s.nd f t F) (hS : Src w A l.length c 1 ((encL l).map encI)) (hn : l.length ≤ maxLen) (hl : ∀ x ∈ l, x < s.vs)
    (hcall : ∀ (xs : Array Value) (w : World), (callFunc M xs).run Tryz.prog w = .ok (.enter M xs) w) (HJ : JoinOK S J k w M caps) (hm : s.m + nS S t * 2 ^ (nS S t + 2) + 2 ≤ 1000000000) :
    Calls Tryz.prog 76 #[.pointer (some ⟨k.p, 0, none⟩), .int .i64 f, .slice A l.length c, .func (.func M) #[] caps] w (ApiOut k s w (nS S t * 2 ^ (nS S t + 2) + 2) (fun nd' r => ∃ t', leB t t' ∧ Den S nd' r t' (overT J (memB l) F))) := by
  have hW := hA.wf
  have hnm := hA.nm
  have l1 := d.lt hW
  have hvs := ad.vs
  obtain ⟨hb2, x0, x1⟩ := box2 w (.pointer (some ⟨k.p, 0, none⟩)) (.func (.func M) #[] caps) 24 119
  have HF : Hid (∀ j, w.heap.size ≤ j → ¬ fp k j) := by
    obtain ⟨_, _, H, _⟩ := hA
    exact fun j hj hf => by have := H.lt j hf; omega
  obtain ⟨W, hWd⟩ : ∃ W, W = ((w.alloc (.cells #[.pointer (some ⟨k.p, 0, none⟩)] 24)).alloc (.cells #[.func (.func M) #[] caps] 119)) := ⟨_, rfl⟩
  rw [← hWd] at hb2 x0 x1
  have hsW : W.heap.size = w.heap.size + 2 := by rw [hWd]; simp
  have hbl := below_wide hb2 (bel_one W (.cells #[.int .i64 f] 3))
  have HC := hide (check_any k s [(f : Int)] W.heap.size _ (hA.below hbl) (cells1 W f) (by simp; omega) (by simp))
  rw [show [(f : Int)].length = 1 from rfl, gvn_all (s := s) (l := [(f : Int)]) (by simp [g1]), hsW] at HC
  have HK := hide (known_any k s A c (encL l) _ (hA.below hbl) (by rw [encL_len]; exact hS.below hbl) (by rw [encL_len]; exact hn))
  rw [encL_len, knownB_of hl] at HK
  have y0 : (W.alloc (.cells #[.int .i64 f] 3)).cell? ⟨w.heap.size, 0, none⟩ = some (.pointer (some ⟨k.p, 0, none⟩)) := cell_heap (heap_old x0) rfl
  have y9 : W.cell? ⟨w.heap.size, 0, none⟩ = some (.pointer (some ⟨k.p, 0, none⟩)) := cell_heap x0 rfl
  have HX0 := hide (heap_old (p := .cells #[.int .i64 f] 3) x0)
  have HX1 := hide (heap_old (p := .cells #[.int .i64 f] 3) x1)
  have HBL := hide hbl
  have HA := hide hA
  have HD := hide d
  have HAD := hide ad
  have HSR := hide hS
  have HL := hide hl
  have HJJ := hide HJ
  have HS := hide hsW
  have HCL := hide hcall
  generalize hR : nS S t * 2 ^ (nS S t + 2) + 2 = R at *
  have HR := hide hR
  unfold maxLen at hn
  clear hA g1 d hbl ad hb2 x0 x1 hsW hR hS hl HJ hcall
  subst hWd
  go_enter Tryz.func76, Tryz.ntmps76
  go_wp2_with fail
  refine HC.out.mono ?_
  rintro e w1 ⟨rfl, rfl⟩
  go_wp2_with fail
  refine HK.out.mono ?_
  rintro e w2 ⟨rfl, hb⟩
  have z0 := hide (heapB hb HX0.out)
  have z1 := hide (heapB hb HX1.out)
  have HB2 := hide (below_wide HBL.out hb)
  have s2 := HB2.out.size
  clear hb HX0 HX1 HC HK y0 y9
  go_wp2_with fail
  have hf0 := hide (flags_new w2)
  have hw3 := hide (bel_one w2 (.cells Tryz.zeroCells138 138))
  generalize w2.alloc (.cells Tryz.zeroCells138 138) = w3 at *
  go_loopw [13, 27] (fun _ j wr => ∃ i : Nat, j = .int .i64 i ∧ i ≤ l.length ∧ Below w2.heap.size w2 wr ∧ Flags wr w2.heap.size (memB (l.take i))) (fun _ j _ => l.length - (intOf j).toNat)
  case atStart => exact ⟨0, rfl, Nat.zero_le _, hw3.out, hf0.out⟩
  case round =>
    obtain ⟨i, rfl, hi, hB, hFl⟩ := hrel
    rcases Nat.lt_or_ge i l.length with hlt | hge
    · obtain ⟨x, hx⟩ : ∃ x, l[i]? = some x := ⟨_, List.getElem?_eq_getElem hlt⟩
      have d1 : decide (i < l.length) = true := by simpa using hlt
      have d2 : ((i : Int) < l.length) := by omega
      have hxs := HL.out x (List.mem_of_getElem? hx)
      obtain ⟨ad', rfl, hc⟩ := src_at (Src.below HSR.out (below_wide HB2.out hB)) (i := i) (x := (x : Int)) (by unfold encL; rw [List.getElem?_map, hx]; rfl)
      have hcl := hFl.cell (j := x) (by omega)
      have hfr : wr.frozen? ⟨w2.heap.size, x, none⟩ = false := by obtain ⟨cur, h1, _⟩ := hFl; exact frozen_heap h1
      have HB3 := hide (hB.setCell (p := ⟨w2.heap.size, x, none⟩) (Nat.le_refl _) (.bool true))
      have HF3 := hide (hFl.put (x := x))
      rw [memB_next hx] at HF3
      clear hB hFl
      go_wp2_with fail
      go_roundw
      case rel => exact ⟨i + 1, by go_num, by omega, HB3.out, HF3.out⟩
      case measure => simp [intOf]; omega
    · have e : i = l.length := by omega
      have d1 : decide (i < l.length) = false := by simp; omega
      subst e
      rw [List.take_length] at hFl
      have hb3 := (below_wide HB2.out hB).drew
      have z0' := heapB hB z0.out
      have z1' := heapB hB z1.out
      have hA3 := HA.out.below hb3
      have k2 : wr.drew.cell? ⟨w.heap.size, 0, none⟩ = some (.pointer (some ⟨k.p, 0, none⟩)) := cell_heap z0' rfl
      have k3' : wr.drew.cell? ⟨w.heap.size + 1, 0, none⟩ = some (.func (.func M) #[] caps) := cell_heap z1' rfl
      have HE := hide (each_any S (fun _ => S) leB (overT J (memB l)) k s _ _ f t F wr.drew hA3 HD.out (over_made S J hJ (memB l) s.nd k wr.drew M caps w2.heap.size (w.heap.size + 1) w.heap.size HCL.out (hFl.kept rfl) k3' k2 (HF.out _ (by omega)) (HF.out _ (by omega)) (HF.out _ (by omega)) (HJJ.out.turn (Turn.below (k := k) hb3))) call_over (Nat.le_refl _) (overT_free hJ (fun _ _ => rfl)) (overT_free hJ (fun _ _ => rfl)) (by have := HR.out; omega))
      rw [HR.out] at HE
      have hmR : s.m + R ≤ 1000000000 := by have := HR.out; omega
      have HB4 := hide hb3
      have hnf := HF.out w.heap.size (by omega)
      have hlt' : w.heap.size < wr.drew.heap.size := lt_of_cell k2
      clear hb3 hA3 z0' z1' k3' hB hFl
      have hwr : IntKind.i32.wrap (f : Int) = f := wrap3 (by omega) (by omega)
      go_wp2_with fail
      go_region_held3 (fun w' => w'.cell? ⟨w.heap.size, 0, none⟩ = some (.pointer (some ⟨k.p, 0, none⟩)))
        (first | exact k2 | exact k3 | exact k4)
        (first
          | (go_at_call 74; (with_reducible refine HE.out.mono ?_); intro e w3 hh; unfold NodeOut at hh; obtain ⟨k1, s1, r, he, hA3, T3, U3, m3, o3⟩ := hh; subst he; have k3 := T3.cell k2 hnf; have HA3 := hide hA3; have HT3 := hide T3; have HU3 := hide U3; have HM3 := hide m3; have HO3 := hide o3; clear hA3 T3 U3 m3 o3)
          | (go_at_call 71; (with_reducible refine (give_call HA3.out HO3.out HM3.out hmR HU3.out HAD.out HT3.out.p).mono ?_); intro e w4 hg; obtain ⟨x, y, he, T4⟩ := give_two hg; subst he; have k4 := T4.cell k3 (HT3.out.fpn hlt' hnf); have HX := hide (api_call HU3.out HM3.out HO3.out ((Turn.below (k := k) HB4.out).trans HT3.out) HA3.out.wf hg); clear hg T4))
      all_goals (
        go_wp2_with fail
        go_ret2
        exact HX.out)
set_option maxRecDepth 100000 in
theorem Exists_any (S : Nat → Bool) (k : Blk) (s : St) (f t : Nat) (F : Env → Bool) (A : Option Addr) (c : Nat) (l : List Nat) (w : World) (hA : Ar w k s) (ad : Adm s) (g1 : s.gi f = true) (d : Den S s.nd f t F) (hS : Src w A l.length c 1 ((encL l).map encI)) (hn : l.length ≤ maxLen) (hl : ∀ x ∈ l, x < s.vs) (hm : s.m + nS S t * 2 ^ (nS S t + 2) + 2 ≤ 1000000000) :
    Calls Tryz.prog 61 #[.pointer (some ⟨k.p, 0, none⟩), .int .i64 f, .slice A l.length c] w (ApiOut k s w (nS S t * 2 ^ (nS S t + 2) + 2) (fun nd' r => ∃ t', leB t t' ∧ Den S nd' r t' (overT (fun a b => a || b) (memB l) F))) := by
  have hb := bel_one w (.cells #[.pointer (some ⟨k.p, 0, none⟩)] 24)
  have hnf : ¬ fp k w.heap.size := by
    obtain ⟨_, _, H, _⟩ := hA
    exact fun hf => by have := H.lt _ hf; omega
  have HC := hide (over_any S _ joins_or k s f t F A c l _ _ _ (hA.below hb) ad g1 d (hS.below hb) hn hl call_exists (exists_join S k _ w.heap.size (cell_heap (heap_new _ _) rfl) hnf) hm)
  have y0 : (w.alloc (.cells #[.pointer (some ⟨k.p, 0, none⟩)] 24)).cell? ⟨w.heap.size, 0, none⟩ = some (.pointer (some ⟨k.p, 0, none⟩)) := cell_heap (heap_new _ _) rfl
  have HB := hide hb
  generalize nS S t * 2 ^ (nS S t + 2) + 2 = R at *
  clear hA ad g1 d hS hn hl hm hb
  go_enter Tryz.func61, Tryz.ntmps61
  go_wp2_with fail
  refine HC.out.mono ?_
  intro e w1 hh
  obtain ⟨x, y, he, HX⟩ := api_two hh HB.out
  subst he
  have HX := hide HX
  clear hh
  go_wp2_with fail
  go_ret2
  exact HX.out
set_option maxRecDepth 100000 in
theorem Forall_any (S : Nat → Bool) (k : Blk) (s : St) (f t : Nat) (F : Env → Bool) (A : Option Addr) (c : Nat) (l : List Nat) (w : World) (hA : Ar w k s) (ad : Adm s) (g1 : s.gi f = true) (d : Den S s.nd f t F) (hS : Src w A l.length c 1 ((encL l).map encI)) (hn : l.length ≤ maxLen) (hl : ∀ x ∈ l, x < s.vs) (hm : s.m + nS S t * 2 ^ (nS S t + 2) + 2 ≤ 1000000000) :
    Calls Tryz.prog 62 #[.pointer (some ⟨k.p, 0, none⟩), .int .i64 f, .slice A l.length c] w (ApiOut k s w (nS S t * 2 ^ (nS S t + 2) + 2) (fun nd' r => ∃ t', leB t t' ∧ Den S nd' r t' (overT (fun a b => a && b) (memB l) F))) := by
  have hb := bel_one w (.cells #[.pointer (some ⟨k.p, 0, none⟩)] 24)
  have hnf : ¬ fp k w.heap.size := by
    obtain ⟨_, _, H, _⟩ := hA
    exact fun hf => by have := H.lt _ hf; omega
  have HC := hide (over_any S _ joins_and k s f t F A c l _ _ _ (hA.below hb) ad g1 d (hS.below hb) hn hl call_forall (forall_join S k _ w.heap.size (cell_heap (heap_new _ _) rfl) hnf) hm)
  have y0 : (w.alloc (.cells #[.pointer (some ⟨k.p, 0, none⟩)] 24)).cell? ⟨w.heap.size, 0, none⟩ = some (.pointer (some ⟨k.p, 0, none⟩)) := cell_heap (heap_new _ _) rfl
  have HB := hide hb
  generalize nS S t * 2 ^ (nS S t + 2) + 2 = R at *
  clear hA ad g1 d hS hn hl hm hb
  go_enter Tryz.func62, Tryz.ntmps62
  go_wp2_with fail
  refine HC.out.mono ?_
  intro e w1 hh
  obtain ⟨x, y, he, HX⟩ := api_two hh HB.out
  subst he
  have HX := hide HX
  clear hh
  go_wp2_with fail
  go_ret2
  exact HX.out
end Go.Proofs.YtgfjdkkfgclhjaaGreat.Bd
/- Rename: what it asks, and the function that makes. -/
namespace Go.Proofs.YtgfjdkkfgclhjaaGreat.Bd
open Go.RowKit Go.Proofs.YtgfjdkkfgclhjaaGreat Go.Proofs.YtgfjdkkfgclhjaaGreat.Lx Go.Maps

/-- the variables of S from v on -/
def setL (S : Nat → Bool) (v : Nat) : List Nat := ((List.range (256 - v)).filter fun x => S (v + x)).map fun x => v + x
theorem setL_len (S : Nat → Bool) (v : Nat) : (setL S v).length = nS S v := by unfold setL nS; simp
theorem setL_mem {S : Nat → Bool} {v x : Nat} : x ∈ setL S v ↔ v ≤ x ∧ x < 256 ∧ S x = true := by
  unfold setL
  simp only [List.mem_map, List.mem_filter, List.mem_range]
  constructor
  · rintro ⟨y, ⟨h1, h2⟩, rfl⟩
    exact ⟨by omega, by omega, h2⟩
  · rintro ⟨h1, h2, h3⟩
    exact ⟨x - v, ⟨by omega, by rw [show v + (x - v) = x by omega]; exact h3⟩, by omega⟩
theorem setL_nodup (S : Nat → Bool) (v : Nat) : (setL S v).Nodup := by
  unfold setL List.Nodup
  rw [List.pairwise_map]
  exact (List.nodup_range.sublist List.filter_sublist).imp (fun h e => h (by omega))
/-- one set has no more than another -/
theorem nS_sub {S S' : Nat → Bool} {u v : Nat} (g : Nat → Nat) (h : ∀ y, u ≤ y → y < 256 → S' y = true → ∃ x, v ≤ x ∧ x < 256 ∧ S x = true ∧ g x = y) : nS S' u ≤ nS S v := by
  rw [← setL_len, ← setL_len]
  have := List.Nodup.length_le_of_subset (l₂ := (setL S v).map g) (setL_nodup S' u) (fun y hy => by
    obtain ⟨h1, h2, h3⟩ := setL_mem.1 hy
    obtain ⟨x, a, b, c, e⟩ := h y h1 h2 h3
    exact List.mem_map.2 ⟨x, setL_mem.2 ⟨a, b, c⟩, e⟩)
  simpa using this
/-- what becomes of the variables of S from t on -/
def imgS (S : Nat → Bool) (rn : Nat → Nat) (t y : Nat) : Bool := (List.range 256).any fun x => decide (t ≤ x) && S x && decide (rn x = y)
theorem imgS_iff {S : Nat → Bool} {rn : Nat → Nat} {t y : Nat} : imgS S rn t y = true ↔ ∃ x, t ≤ x ∧ x < 256 ∧ S x = true ∧ rn x = y := by
  unfold imgS
  simp only [List.any_eq_true, List.mem_range, Bool.and_eq_true, decide_eq_true_eq]
  constructor
  · rintro ⟨x, h1, ⟨h2, h3⟩, h4⟩
    exact ⟨x, h2, h1, h3, h4⟩
  · rintro ⟨x, h1, h2, h3, h4⟩
    exact ⟨x, h2, ⟨h1, h3⟩, h4⟩
theorem imgS_le (S : Nat → Bool) (rn : Nat → Nat) (t u : Nat) : nS (imgS S rn t) u ≤ nS S t := nS_sub rn (fun _ _ _ h => imgS_iff.1 h)
theorem imgS_mono {S : Nat → Bool} {rn : Nat → Nat} {t t' : Nat} (h : t ≤ t') (y : Nat) (hy : imgS S rn t' y = true) : imgS S rn t y = true := by
  obtain ⟨x, h1, h2⟩ := imgS_iff.1 hy
  exact imgS_iff.2 ⟨x, by omega, h2⟩
def intoF (ps : List (Nat × Nat)) : Int → Option Int := ps.foldl (fun g p => fun x => if x = (p.1 : Int) then some (p.2 : Int) else g x) (fun _ => none)
theorem intoF_snoc (ps : List (Nat × Nat)) (p : Nat × Nat) : intoF (ps ++ [p]) = fun x => if x = (p.1 : Int) then some (p.2 : Int) else intoF ps x := by
  unfold intoF
  rw [List.foldl_append]
  rfl
theorem intoF_none {ps : List (Nat × Nat)} {a : Nat} (h : ∀ p ∈ ps, p.1 ≠ a) : intoF ps a = none := by
  rcases List.eq_nil_or_concat ps with rfl | ⟨qs, q, rfl⟩
  · rfl
  · rw [List.concat_eq_append] at h ⊢
    rw [intoF_snoc]
    simp only
    rw [if_neg (fun e => h q (by simp) (by omega))]
    exact intoF_none (fun p hp => h p (by simp [hp]))
termination_by ps.length
decreasing_by all_goals simp_wf; (try simp_all)
theorem intoF_some {ps : List (Nat × Nat)} {x c : Int} (h : intoF ps x = some c) : ∃ p ∈ ps, x = (p.1 : Int) ∧ c = (p.2 : Int) := by
  rcases List.eq_nil_or_concat ps with rfl | ⟨qs, q, rfl⟩
  · cases h
  · rw [List.concat_eq_append] at h ⊢
    rw [intoF_snoc] at h
    simp only at h
    split at h
    · rename_i e
      cases h
      exact ⟨q, by simp, e, rfl⟩
    · obtain ⟨p, hp, e⟩ := intoF_some h
      exact ⟨p, by simp [hp], e⟩
termination_by ps.length
decreasing_by all_goals simp_wf; (try simp_all)
def rnOf (ps : List (Nat × Nat)) (v : Nat) : Nat := match intoF ps v with | some c => c.toNat | none => v
def renT (rn : Nat → Nat) (F : Env → Bool) : Env → Bool := fun ρ => F (fun x => ρ (rn x))
def anyB (_ _ : Nat) : Prop := True
theorem call_rename (xs : Array Value) (w : World) : (callFunc 79 xs).run Tryz.prog w = .ok (.enter 79 xs) w :=
  call_enter Tryz.func79 (by kernel_rfl) (by kernel_rfl) xs w
/-- the two calls: a variable, and what stands on it -/
theorem rename_ite {S : Nat → Bool} {rn : Nat → Nat} {k k1 : Blk} {s s1 : St} {v u tl th r1 r2 x t1 t2 R : Nat} {Gl Gh : Env → Bool} {w1 : World} (hx : rn v = u) (hR : 2 ^ (nS S v + 2) = R) (hA1 : Ar w1 k1 s1) (hv : v < 256) (hrv : u < 256) (hS : S v = true) (h1 : v < tl) (h2 : v < th) (d1 : Den (imgS S rn tl) s.nd r1 t1 Gl) (d2 : Den (imgS S rn th) s.nd r2 t2 Gh) (U : Up s s1) (om : OkMk s.nd s1.nd u 0 1 x) (hm1 : s1.m ≤ s.m + 1) (hm : s.m + R ≤ 1000000000) (hp : k1.p = k.p) :
    Calls Tryz.prog 73 #[.pointer (some ⟨k.p, 0, none⟩), .int .i32 x, .int .i32 r2, .int .i32 r1] w1 fun e w' => ∃ k' s' r, e = .returned (.int .i32 (r : Nat)) ∧ Ar w' k' s' ∧ Turn k1 k' w1 w' ∧ Up s1 s' ∧ s'.m + 2 ≤ s.m + R ∧ ∃ t', anyB v t' ∧ Den (imgS S rn v) s'.nd r t' (fun ρ => if ρ u then Gh ρ else Gl ρ) := by
  have hSv : imgS S rn v u = true := imgS_iff.2 ⟨v, Nat.le_refl _, hv, hS, hx⟩
  obtain ⟨tx, _, dx⟩ := om (imgS S rn v) _ _ _ _ hSv .zero .one
  have e1 := (d1.mono (imgS_mono (Nat.le_of_lt h1))).up U
  have e2 := (d2.mono (imgS_mono (Nat.le_of_lt h2))).up U
  have hl := imgS_le S rn v (min tx (min t2 t1))
  have hpw : 2 ^ (nS (imgS S rn v) (min tx (min t2 t1)) + 1) ≤ 2 ^ (nS S v + 1) := Nat.pow_le_pow_right (by omega) (by omega)
  have hp2 : 2 ^ (nS S v + 2) = 2 * 2 ^ (nS S v + 1) := by rw [Nat.pow_succ _ (nS S v + 1)]; omega
  have hp3 : 2 ≤ 2 ^ (nS S v + 1) := by have := Nat.one_le_two_pow (n := nS S v); rw [Nat.pow_succ]; omega
  rw [← hp]
  refine (ite_any (imgS S rn v) k1 s1 x r2 r1 tx t2 t1 _ _ _ w1 hA1 dx e2 e1 (by omega)).mono ?_
  rintro e w' ⟨k', s', r, he, hA', hT', hU', hm', ho⟩
  obtain ⟨t', _, d⟩ := ho (imgS S rn v) _ _ _ _ _ _ dx e2 e1
  refine ⟨k', s', r, he, hA', hT', hU', by omega, t', trivial, ?_⟩
  have e : (fun ρ : Env => if ρ u then Gh ρ else Gl ρ) = fun ρ => if (if ρ u then true else false) then Gh ρ else Gl ρ := by funext ρ; cases ρ u <;> simp
  rw [e]; exact d
set_option maxHeartbeats 2000000 in
set_option maxRecDepth 100000 in
theorem rename_made_no (S : Nat → Bool) (rn : Nat → Nat) (k : Blk) (s : St) (w : World) (v r1 r2 t1 t2 tl th R b1 b2 im : Nat) (Gl Gh : Env → Bool) (hx : rn v = v) (hR : 2 ^ (nS S v + 2) = R) (hA : Ar w k s) (hv : v < 256) (hrv : v < 256) (hS : S v = true) (h1 : v < tl) (h2 : v < th) (d1 : Den (imgS S rn tl) s.nd r1 t1 Gl) (d2 : Den (imgS S rn th) s.nd r2 t2 Gh) (hm : s.m + R ≤ 1000000000) (hp : 4 ≤ R)
    (e1 : w.cell? ⟨b1, 0, none⟩ = some (.map (some im))) (e2 : w.cell? ⟨b2, 0, none⟩ = some (.pointer (some ⟨k.p, 0, none⟩))) (hnf : ¬ fp k b2) (lk : (Instr.lookup 120 (.map (some im)) (.int .i32 v) true).run Tryz.prog w = .ok (.tuple #[.int .i32 0, .bool false]) w) :
    Calls Tryz.prog 79 #[.int .i32 v, .int .i32 r1, .int .i32 r2, .pointer (some ⟨b1, 0, none⟩), .pointer (some ⟨b2, 0, none⟩)] w (NodeOut k s w R (fun nd' r => ∃ t', anyB v t' ∧ Den (imgS S rn v) nd' r t' (fun ρ => if ρ v then Gh ρ else Gl ρ))) := by
  have HX := hide hx
  have HR := hide hR
  have HM : Hid (∀ w', Below w.heap.size w w' → Calls Tryz.prog 72 #[.pointer (some ⟨k.p, 0, none⟩), .int .i32 v, .int .i32 0, .int .i32 1] w' fun e w'' => ∃ k' s' r, e = .returned (.int .i32 (r : Nat)) ∧ Ar w'' k' s' ∧ Turn k k' w' w'' ∧ Up s s' ∧ s'.m ≤ s.m + 1 ∧ OkMk s.nd s'.nd v 0 1 r) := hide (fun w' (hb : Below w.heap.size w w') => mk_any k s v 0 1 w' (hA.below hb) (by omega) (fun _ => true) 256 256 _ _ .zero .one (by omega) (by omega) (by omega) rfl)
  have HD := hide (And.intro d1 d2)
  have hw0 := (Below.refl w.heap.size w).drew
  have l2 : b2 < w.heap.size := lt_of_cell e2
  clear hA d1 d2 hR hx
  go_enter Tryz.func79, Tryz.ntmps79
  go_wp2_with fail
  go_region_held3 (fun w' => w'.cell? ⟨b2, 0, none⟩ = some (.pointer (some ⟨k.p, 0, none⟩)))
    (first | exact e2 | exact k3 | exact k4)
    (first
      | (go_at_call 72; (with_reducible refine (HM.out _ hw0).mono ?_); rintro e w1 ⟨k1, s1, x, he, hA1, T1, U1, m1, o1⟩; subst he; have k3 := T1.cell e2 hnf; have HA1 := hide hA1; have HT1 := hide T1; have HU1 := hide U1; have HM1 := hide m1; have HO1 := hide o1; clear hA1 T1 U1 m1 o1)
      | (go_at_call 73; (with_reducible refine (rename_ite HX.out HR.out HA1.out hv hrv hS h1 h2 HD.out.1 HD.out.2 HU1.out HO1.out HM1.out hm HT1.out.p).mono ?_); rintro e w2 ⟨k2, s2, r, he, hA2, T2, U2, m2, o2⟩; subst he; have k4 := T2.cell k3 (HT1.out.fpn l2 hnf); have HZ := hide (show NodeOut k s w R (fun nd' r => ∃ t', anyB v t' ∧ Den (imgS S rn v) nd' r t' (fun ρ => if ρ v then Gh ρ else Gl ρ)) (.returned (.int .i32 (r : Nat))) w2 from ⟨k2, s2, r, rfl, hA2, (Turn.below (k := k) hw0).trans (HT1.out.trans T2), HU1.out.trans U2, m2, o2⟩); clear hA2 T2 U2 m2 o2))
  all_goals (
    go_wp2_with fail
    go_ret
    exact HZ.out)
set_option maxHeartbeats 2000000 in
set_option maxRecDepth 100000 in
theorem rename_made_some (S : Nat → Bool) (rn : Nat → Nat) (k : Blk) (s : St) (w : World) (v u r1 r2 t1 t2 tl th R b1 b2 im : Nat) (Gl Gh : Env → Bool) (hx : rn v = u) (hR : 2 ^ (nS S v + 2) = R) (hA : Ar w k s) (hv : v < 256) (hrv : u < 256) (hS : S v = true) (h1 : v < tl) (h2 : v < th) (d1 : Den (imgS S rn tl) s.nd r1 t1 Gl) (d2 : Den (imgS S rn th) s.nd r2 t2 Gh) (hm : s.m + R ≤ 1000000000) (hp : 4 ≤ R)
    (e1 : w.cell? ⟨b1, 0, none⟩ = some (.map (some im))) (e2 : w.cell? ⟨b2, 0, none⟩ = some (.pointer (some ⟨k.p, 0, none⟩))) (hnf : ¬ fp k b2) (lk : (Instr.lookup 120 (.map (some im)) (.int .i32 v) true).run Tryz.prog w = .ok (.tuple #[.int .i32 u, .bool true]) w) :
    Calls Tryz.prog 79 #[.int .i32 v, .int .i32 r1, .int .i32 r2, .pointer (some ⟨b1, 0, none⟩), .pointer (some ⟨b2, 0, none⟩)] w (NodeOut k s w R (fun nd' r => ∃ t', anyB v t' ∧ Den (imgS S rn v) nd' r t' (fun ρ => if ρ u then Gh ρ else Gl ρ))) := by
  have HX := hide hx
  have HR := hide hR
  have HM : Hid (∀ w', Below w.heap.size w w' → Calls Tryz.prog 72 #[.pointer (some ⟨k.p, 0, none⟩), .int .i32 u, .int .i32 0, .int .i32 1] w' fun e w'' => ∃ k' s' r, e = .returned (.int .i32 (r : Nat)) ∧ Ar w'' k' s' ∧ Turn k k' w' w'' ∧ Up s s' ∧ s'.m ≤ s.m + 1 ∧ OkMk s.nd s'.nd u 0 1 r) := hide (fun w' (hb : Below w.heap.size w w') => mk_any k s u 0 1 w' (hA.below hb) (by omega) (fun _ => true) 256 256 _ _ .zero .one (by omega) (by omega) (by omega) rfl)
  have HD := hide (And.intro d1 d2)
  have hw0 := (Below.refl w.heap.size w).drew
  have l2 : b2 < w.heap.size := lt_of_cell e2
  clear hA d1 d2 hR hx
  go_enter Tryz.func79, Tryz.ntmps79
  go_wp2_with fail
  go_region_held3 (fun w' => w'.cell? ⟨b2, 0, none⟩ = some (.pointer (some ⟨k.p, 0, none⟩)))
    (first | exact e2 | exact k3 | exact k4)
    (first
      | (go_at_call 72; (with_reducible refine (HM.out _ hw0).mono ?_); rintro e w1 ⟨k1, s1, x, he, hA1, T1, U1, m1, o1⟩; subst he; have k3 := T1.cell e2 hnf; have HA1 := hide hA1; have HT1 := hide T1; have HU1 := hide U1; have HM1 := hide m1; have HO1 := hide o1; clear hA1 T1 U1 m1 o1)
      | (go_at_call 73; (with_reducible refine (rename_ite HX.out HR.out HA1.out hv hrv hS h1 h2 HD.out.1 HD.out.2 HU1.out HO1.out HM1.out hm HT1.out.p).mono ?_); rintro e w2 ⟨k2, s2, r, he, hA2, T2, U2, m2, o2⟩; subst he; have k4 := T2.cell k3 (HT1.out.fpn l2 hnf); have HZ := hide (show NodeOut k s w R (fun nd' r => ∃ t', anyB v t' ∧ Den (imgS S rn v) nd' r t' (fun ρ => if ρ u then Gh ρ else Gl ρ)) (.returned (.int .i32 (r : Nat))) w2 from ⟨k2, s2, r, rfl, hA2, (Turn.below (k := k) hw0).trans (HT1.out.trans T2), HU1.out.trans U2, m2, o2⟩); clear hA2 T2 U2 m2 o2))
  all_goals (
    go_wp2_with fail
    go_ret
    exact HZ.out)
theorem rename_made (S : Nat → Bool) (ps : List (Nat × Nat)) (nd0 : List Nd) (k0 : Blk) (w0 : World) (b1 b2 im n : Nat) (hps : ∀ p ∈ ps, p.2 < 256) (c1 : w0.cell? ⟨b1, 0, none⟩ = some (.map (some im))) (c2 : w0.cell? ⟨b2, 0, none⟩ = some (.pointer (some ⟨k0.p, 0, none⟩))) (n1 : ¬ fp k0 b1) (n2 : ¬ fp k0 b2) (n3 : ¬ fp k0 im) (hI : MInt Tryz.prog w0 21 21 .i32 im n enc3 (intoF ps)) :
    MadeOK S nd0 (imgS S (rnOf ps)) anyB (renT (rnOf ps)) k0 w0 79 #[.pointer (some ⟨b1, 0, none⟩), .pointer (some ⟨b2, 0, none⟩)] := by
  intro k s w v tl th r1 r2 t1 t2 Fl Fh T0 hA hex hv hS h1 h2 l1 d1 l2 d2 i1 i2 hm
  have hp := pow_four (nS S v)
  have e1 := T0.cell c1 n1
  have e2 := T0.cell c2 n2
  have hI' := hI.turn T0 n3
  rw [← T0.p] at e2
  have hnf : ¬ fp k b2 := T0.fpn (lt_of_cell c2) n2
  have lk : (Instr.lookup 120 (.map (some im)) (.int .i32 v) true).run Tryz.prog w = .ok (.tuple #[.int .i32 ((intoF ps v).getD 0), .bool (intoF ps v).isSome]) w :=
    hI'.look keyed3 Tryz.underlying120 Tryz.underlying21 (zero3 _) (key3 v (by omega) (by omega))
  have eT : renT (rnOf ps) (fun ρ => if ρ v then Fh ρ else Fl ρ) = fun ρ => if ρ (rnOf ps v) then renT (rnOf ps) Fh ρ else renT (rnOf ps) Fl ρ := rfl
  rw [eT]
  cases hf : intoF ps v with
  | none =>
    have hx : rnOf ps v = v := by unfold rnOf; rw [hf]
    rw [hf] at lk
    rw [hx]
    exact rename_made_no S (rnOf ps) k s w v r1 r2 t1 t2 tl th _ b1 b2 im _ _ hx rfl hA hv hv hS h1 h2 d1 d2 hm hp e1 e2 hnf lk
  | some c =>
    obtain ⟨p, hpm, _, rfl⟩ := intoF_some hf
    have hx : rnOf ps v = p.2 := by unfold rnOf; rw [hf]; simp
    rw [hf] at lk
    rw [hx]
    exact rename_made_some S (rnOf ps) k s w v p.2 r1 r2 t1 t2 tl th _ b1 b2 im _ _ hx rfl hA hv (hps p hpm) hS h1 h2 d1 d2 hm hp e1 e2 hnf lk
end Go.Proofs.YtgfjdkkfgclhjaaGreat.Bd
/- Rename. -/
namespace Go.Proofs.YtgfjdkkfgclhjaaGreat.Bd
open Go.RowKit Go.Proofs.YtgfjdkkfgclhjaaGreat Go.Proofs.YtgfjdkkfgclhjaaGreat.Lx Go.Maps

theorem zip_get {l1 l2 : List Nat} {i x y : Nat} (h1 : l1[i]? = some x) (h2 : l2[i]? = some y) : (l1.zip l2)[i]? = some (x, y) := by
  rw [List.getElem?_zip_eq_some]
  exact ⟨h1, h2⟩
theorem zip_take_first {l1 l2 : List Nat} (hn : l1.Nodup) {i x : Nat} (hx : l1[i]? = some x) : ∀ p ∈ (l1.zip l2).take i, p.1 ≠ x := by
  intro p hp e
  obtain ⟨j, hj⟩ := List.mem_iff_getElem?.1 hp
  have hji : j < i := by
    rcases Nat.lt_or_ge j i with h | h
    · exact h
    · rw [List.getElem?_take, if_neg (by omega)] at hj; cases hj
  rw [List.getElem?_take, if_pos hji] at hj
  have h1 := (List.getElem?_zip_eq_some.1 hj).1
  have hi := lt_of_some hx
  have := (List.pairwise_iff_getElem.1 hn) j i (by omega) hi hji
  rw [List.getElem?_eq_getElem (by omega)] at h1
  rw [List.getElem?_eq_getElem hi] at hx
  have a := Option.some.inj h1
  have b := Option.some.inj hx
  omega
theorem into_next {l1 l2 : List Nat} {i x y : Nat} (h1 : l1[i]? = some x) (h2 : l2[i]? = some y) : (fun z : Int => if z = (x : Int) then some (y : Int) else intoF ((l1.zip l2).take i) z) = intoF ((l1.zip l2).take (i + 1)) := by
  rw [List.take_add_one, zip_get h1 h2]
  exact (intoF_snoc _ (x, y)).symm

/-- what the loop keeps: the new names so far -/
structure Rn (w3 wr : World) (ps : List (Nat × Nat)) (i : Nat) : Prop where
  b : Below w3.heap.size w3 wr
  c : wr.heap[w3.heap.size + 1]? = some (.cells #[.map (some w3.heap.size)] 120 (0, 0))
  m : MInt Tryz.prog wr 21 21 .i32 w3.heap.size i enc3 (intoF (ps.take i))
theorem rn_start (w3 : World) (ps : List (Nat × Nat)) : Rn w3 ((w3.alloc (.map #[] 0)).alloc (.cells #[.map (some w3.heap.size)] 120)) ps 0 := by
  refine ⟨((Below.refl _ w3).alloc (Nat.le_refl _) _).alloc (by simp) _, ?_, ?_⟩
  · have := heap_new (w3.alloc (.map #[] 0)) (.cells #[.map (some w3.heap.size)] 120)
    rw [show (w3.alloc (.map #[] 0)).heap.size = w3.heap.size + 1 by simp] at this
    exact this
  · rw [List.take_zero]
    exact (MInt.made w3 21 21 .i32 enc3).kept (World.grownBy_alloc _ _ none) (by simp)
theorem Rn.next {w3 wr w' : World} {l1 l2 : List Nat} {i x y : Nat} (h : Rn w3 wr (l1.zip l2) i) (h1 : l1[i]? = some x) (h2 : l2[i]? = some y) (hm : MInt Tryz.prog w' 21 21 .i32 w3.heap.size (i + 1) enc3 (fun z : Int => if z = (x : Int) then some (y : Int) else intoF ((l1.zip l2).take i) z)) (ht : wr.mapTurned w' w3.heap.size) : Rn w3 w' (l1.zip l2) (i + 1) := by
  refine ⟨h.b.grown ht.grown h.b.size (fun b e => by injection e with e; omega), heap_grown h.c ht.grown (opt_ne (by omega)), ?_⟩
  rw [← into_next h1 h2]
  exact hm
set_option maxHeartbeats 8000000 in
set_option maxRecDepth 100000 in
theorem Rename_any (S : Nat → Bool) (k : Blk) (s : St) (f t : Nat) (F : Env → Bool) (A1 A2 : Option Addr) (c1 c2 : Nat) (l1 l2 : List Nat) (w : World) (hA : Ar w k s) (ad : Adm s) (g1 : s.gi f = true) (d : Den S s.nd f t F) (hS1 : Src w A1 l1.length c1 1 ((encL l1).map encI)) (hS2 : Src w A2 l2.length c2 1 ((encL l2).map encI)) (hn : l1.length ≤ 1000000) (he : l1.length = l2.length) (hnd : l1.Nodup) (hl1 : ∀ x ∈ l1, x < s.vs) (hl2 : ∀ x ∈ l2, x < s.vs) (hm : s.m + nS S t * 2 ^ (nS S t + 2) + 2 ≤ 1000000000) :
    Calls Tryz.prog 63 #[.pointer (some ⟨k.p, 0, none⟩), .int .i64 f, .slice A1 l1.length c1, .slice A2 l2.length c2] w (ApiOut k s w (nS S t * 2 ^ (nS S t + 2) + 2) (fun nd' r => ∃ t', anyB t t' ∧ Den (imgS S (rnOf (l1.zip l2)) t) nd' r t' (renT (rnOf (l1.zip l2)) F))) := by
  have hW := hA.wf
  have hnm := hA.nm
  have hfl := d.lt hW
  have hvs := ad.vs
  have HF : Hid (∀ j, w.heap.size ≤ j → ¬ fp k j) := by
    obtain ⟨_, _, H, _⟩ := hA
    exact fun j hj hf => by have := H.lt j hf; omega
  have hb1 := bel_one w (.cells #[.pointer (some ⟨k.p, 0, none⟩)] 24)
  have x0 := heap_new w (.cells #[.pointer (some ⟨k.p, 0, none⟩)] 24)
  obtain ⟨W, hWd⟩ : ∃ W, W = (w.alloc (.cells #[.pointer (some ⟨k.p, 0, none⟩)] 24)) := ⟨_, rfl⟩
  rw [← hWd] at hb1 x0
  have hsW : W.heap.size = w.heap.size + 1 := by rw [hWd]; simp
  have hbl := below_wide hb1 (bel_one W (.cells #[.int .i64 f] 3))
  have HC := hide (check_any k s [(f : Int)] W.heap.size _ (hA.below hbl) (cells1 W f) (by simp; omega) (by simp))
  rw [show [(f : Int)].length = 1 from rfl, gvn_all (s := s) (l := [(f : Int)]) (by simp [g1]), hsW] at HC
  have HK1 := hide (known_any k s A1 c1 (encL l1) _ (hA.below hbl) (by rw [encL_len]; exact hS1.below hbl) (by rw [encL_len]; unfold maxLen; omega))
  rw [encL_len, knownB_of hl1] at HK1
  have HK2 := hide (fun w' (hb : Below w.heap.size w w') => known_any k s A2 c2 (encL l2) w' (hA.below hb) (by rw [encL_len]; exact hS2.below hb) (by rw [encL_len]; unfold maxLen; omega))
  rw [encL_len, knownB_of hl2] at HK2
  have y0 : (W.alloc (.cells #[.int .i64 f] 3)).cell? ⟨w.heap.size, 0, none⟩ = some (.pointer (some ⟨k.p, 0, none⟩)) := cell_heap (heap_old x0) rfl
  have y9 : W.cell? ⟨w.heap.size, 0, none⟩ = some (.pointer (some ⟨k.p, 0, none⟩)) := cell_heap x0 rfl
  have HX0 := hide (heap_old (p := .cells #[.int .i64 f] 3) x0)
  have hne : ((l1.length : Int) != l2.length) = false := by rw [he]; simp
  have HBL := hide hbl
  have HA := hide hA
  have HD := hide d
  have HAD := hide ad
  have HS1 := hide hS1
  have HS2 := hide hS2
  have HL1 := hide hl1
  have HL2 := hide hl2
  have HN := hide hnd
  have HE := hide he
  have hn2 : l2.length ≤ 1000000 := by omega
  generalize hR : nS S t * 2 ^ (nS S t + 2) + 2 = R at *
  have HR := hide hR
  have hmm := @run_makeMap Tryz.prog
  clear hA g1 d hbl ad hb1 x0 hsW hR hS1 hS2 hl1 hl2 hnd he
  subst hWd
  go_enter Tryz.func63, Tryz.ntmps63
  go_wp2_with fail
  refine HC.out.mono ?_
  rintro e w1 ⟨rfl, rfl⟩
  go_wp2_with fail
  refine HK1.out.mono ?_
  rintro e w2 ⟨rfl, hb⟩
  have z0 := hide (heapB hb HX0.out)
  have HB2 := hide (below_wide HBL.out hb)
  have y2 : w2.cell? ⟨w.heap.size, 0, none⟩ = some (.pointer (some ⟨k.p, 0, none⟩)) := cell_heap z0.out rfl
  clear hb HX0 HC HK1 y0 y9
  go_wp2_with fail
  refine (HK2.out _ HB2.out).mono ?_
  rintro e w3 ⟨rfl, hb⟩
  have z3 := hide (heapB hb z0.out)
  have HB3 := hide (below_wide HB2.out hb)
  have s3 := HB3.out.size
  have y3 : w3.cell? ⟨w.heap.size, 0, none⟩ = some (.pointer (some ⟨k.p, 0, none⟩)) := cell_heap z3.out rfl
  clear hb HK2 z0 y2
  go_wp2_with fail
  have hr0 := hide (rn_start w3 (l1.zip l2))
  generalize (w3.alloc (.map #[] 0)).alloc (.cells #[.map (some w3.heap.size)] 120) = w4 at *
  go_loopw [12, 13, 14, 15, 43] (fun _ _ _ _ j wr => ∃ i : Nat, j = .int .i64 i ∧ i ≤ l1.length ∧ Rn w3 wr (l1.zip l2) i) (fun _ _ _ _ j _ => l1.length - (intOf j).toNat)
  case atStart => exact ⟨0, rfl, Nat.zero_le _, hr0.out⟩
  case round =>
    obtain ⟨i, rfl, hi, hRn⟩ := hrel
    rcases Nat.lt_or_ge i l1.length with hlt | hge
    · have hlen := HE.out
      obtain ⟨x, hx⟩ : ∃ x, l1[i]? = some x := ⟨_, List.getElem?_eq_getElem hlt⟩
      obtain ⟨y, hy⟩ : ∃ y, l2[i]? = some y := ⟨_, List.getElem?_eq_getElem (by omega)⟩
      have d1 : decide (i < l1.length) = true := by simpa using hlt
      have d2 : ((i : Int) < l1.length) := by omega
      have d3 : ((i : Int) < l2.length) := by omega
      have hxs := HL1.out x (List.mem_of_getElem? hx)
      have hys := HL2.out y (List.mem_of_getElem? hy)
      obtain ⟨ad1, rfl, hc1⟩ := src_at (Src.below HS1.out (below_wide HB3.out hRn.b)) (i := i) (x := (x : Int)) (by unfold encL; rw [List.getElem?_map, hx]; rfl)
      obtain ⟨ad2, rfl, hc2⟩ := src_at (Src.below HS2.out (below_wide HB3.out hRn.b)) (i := i) (x := (y : Int)) (by unfold encL; rw [List.getElem?_map, hy]; rfl)
      have k1 := cell_heap (j := 0) hRn.c rfl
      have hnone : intoF ((l1.zip l2).take i) x = none := intoF_none (zip_take_first HN.out hx)
      have lk : (Instr.lookup 120 (.map (some w3.heap.size)) (.int .i32 x) true).run Tryz.prog wr = .ok (.tuple #[.int .i32 0, .bool false]) wr := by
        have := hRn.m.look keyed3 Tryz.underlying120 Tryz.underlying21 (zero3 _) (key3 x (by omega) (by omega))
        rw [hnone] at this
        exact this
      have hwx : IntKind.i32.wrap (x : Int) = x := wrap3 (by omega) (by omega)
      have hwy : IntKind.i32.wrap (y : Int) = y := wrap3 (by omega) (by omega)
      have k1' : wr.drew.cell? ⟨w3.heap.size + 1, 0, none⟩ = some (.map (some w3.heap.size)) := k1
      have hc2' : wr.drew.cell? (ad2.add i) = some (.int .i64 y) := hc2
      have HRN := hide (show Rn w3 wr.drew (l1.zip l2) i from ⟨hRn.b.drew, hRn.c, hRn.m.kept (below_grown (Below.refl _ wr).drew none) (by simp)⟩)
      have hx3 := key3 (x : Int) (by omega) (by omega)
      have hwf : (Lit.int .i32 y).wf = true := wf3 (by omega) (by omega)
      have himax : i < maxLen := by unfold maxLen; omega
      have HXY := hide (And.intro hx hy)
      clear hRn hnone hx hy hlen
      go_wp2_with fail
      go_still_tail 8, (by kernel_rfl)
      change wpList _ _ _ _ _ wr.drew
      generalize wr.drew = w5 at *
      go_wp2_with (at_mapUpdate; go_must (refine wpList_put rfl (.tmp 56) (.tmp 58) (.tmp 63) rfl HRN.out.m keyed3 Tryz.underlying120 Tryz.underlying21 himax enc3_inj rfl (x : Int) _ rfl hx3 (y : Int) rfl hwf ?_))
      intro w6 hmi hmt
      have HR6 := hide (HRN.out.next HXY.out.1 HXY.out.2 hmi hmt)
      clear hmi hmt
      go_wp2_with fail
      go_roundw
      case rel => exact ⟨i + 1, by go_num, by omega, HR6.out⟩
      case measure => simp [intOf]; omega
    · have e : i = l1.length := by omega
      have d1 : decide (i < l1.length) = false := by simp; omega
      have hb4 := (below_wide HB3.out hRn.b).drew
      have z0' := heapB hRn.b z3.out
      have hA3 := HA.out.below hb4
      have hzl : (l1.zip l2).length = l1.length := by rw [List.length_zip, HE.out, Nat.min_self]
      have hmi := hRn.m
      rw [e, ← hzl, List.take_length] at hmi
      have k2 : wr.drew.cell? ⟨w.heap.size, 0, none⟩ = some (.pointer (some ⟨k.p, 0, none⟩)) := cell_heap z0' rfl
      have k3' : wr.drew.cell? ⟨w3.heap.size + 1, 0, none⟩ = some (.map (some w3.heap.size)) := cell_heap (j := 0) hRn.c rfl
      have hlt3 := HAD.out.vs
      have HEA := hide (each_any S (imgS S (rnOf (l1.zip l2))) anyB (renT (rnOf (l1.zip l2))) k s _ _ f t F wr.drew hA3 HD.out (rename_made S (l1.zip l2) s.nd k wr.drew (w3.heap.size + 1) w.heap.size w3.heap.size _ (fun p hp => by
        obtain ⟨j, hj⟩ := List.mem_iff_getElem?.1 hp
        have := HL2.out p.2 (List.mem_of_getElem? (List.getElem?_zip_eq_some.1 hj).2)
        omega) k3' k2 (HF.out _ (by omega)) (HF.out _ (by omega)) (HF.out _ (by omega)) (hmi.kept (below_grown (Below.refl _ wr).drew none) (by simp))) call_rename trivial rfl rfl (by have := HR.out; omega))
      rw [HR.out] at HEA
      have hmR : s.m + R ≤ 1000000000 := by have := HR.out; omega
      have HB4 := hide hb4
      have hnf := HF.out w.heap.size (by omega)
      have hlt' : w.heap.size < wr.drew.heap.size := lt_of_cell k2
      have hdd : decide ((i : Int) < l1.length) = false := by simp; omega
      clear hb4 hA3 z0' k3' hRn hmi e hzl
      have hwr : IntKind.i32.wrap (f : Int) = f := wrap3 (by omega) (by omega)
      go_wp2_with fail
      go_region_held3 (fun w' => w'.cell? ⟨w.heap.size, 0, none⟩ = some (.pointer (some ⟨k.p, 0, none⟩)))
        (first | exact k2 | exact k3 | exact k4)
        (first
          | (go_at_call 74; (with_reducible refine HEA.out.mono ?_); intro e w3 hh; unfold NodeOut at hh; obtain ⟨k1, s1, r, he, hA3, T3, U3, m3, o3⟩ := hh; subst he; have k3 := T3.cell k2 hnf; have HA3 := hide hA3; have HT3 := hide T3; have HU3 := hide U3; have HM3 := hide m3; have HO3 := hide o3; clear hA3 T3 U3 m3 o3)
          | (go_at_call 71; (with_reducible refine (give_call HA3.out HO3.out HM3.out hmR HU3.out HAD.out HT3.out.p).mono ?_); intro e w4 hg; obtain ⟨x, y, he, T4⟩ := give_two hg; subst he; have k4 := T4.cell k3 (HT3.out.fpn hlt' hnf); have HX := hide (api_call HU3.out HM3.out HO3.out ((Turn.below (k := k) HB4.out).trans HT3.out) HA3.out.wf hg); clear hg T4))
      all_goals (
        go_wp2_with fail
        go_ret2
        exact HX.out)
end Go.Proofs.YtgfjdkkfgclhjaaGreat.Bd
/- How many nodes a diagram has. -/
namespace Go.Proofs.YtgfjdkkfgclhjaaGreat.Bd

theorem Den.indepS {S : Nat → Bool} {nd : List Nd} {i t : Nat} {F : Env → Bool} (h : Den S nd i t F) : ∀ ρ ρ' : Env, (∀ x, t ≤ x → x < 256 → S x = true → ρ x = ρ' x) → F ρ = F ρ' := by
  induction h with
  | zero => intro _ _ _; rfl
  | one => intro _ _ _; rfl
  | node h h2 hl hh hne h1 h3 hv hS _ _ il ih =>
    intro ρ ρ' hq
    simp only
    rw [hq _ (Nat.le_refl _) hv hS, il ρ ρ' (fun x hx h => hq x (by omega) h), ih ρ ρ' (fun x hx h => hq x (by omega) h)]
def bitsEnv (S : Nat → Bool) (b : Nat) : Env := fun x => b.testBit (nS S (x + 1))
def code (S : Nat → Bool) (F : Env → Bool) : Nat :=
  (F (bitsEnv S 0)).toNat + 2 * (F (bitsEnv S 1)).toNat + 4 * (F (bitsEnv S 2)).toNat + 8 * (F (bitsEnv S 3)).toNat + 16 * (F (bitsEnv S 4)).toNat + 32 * (F (bitsEnv S 5)).toNat + 64 * (F (bitsEnv S 6)).toNat + 128 * (F (bitsEnv S 7)).toNat
def topOf (nd : List Nd) (x : Nat) : Nat := match nd[x]? with | some (v, _, _) => v | none => 256
theorem topOf_den {S : Nat → Bool} {nd : List Nd} (hw : WF nd) {x t : Nat} {F : Env → Bool} (d : Den S nd x t F) : topOf nd x = t := by
  unfold topOf
  cases d with
  | zero => rw [hw.e0]
  | one => rw [hw.e1]
  | node h => rw [h]
end Go.Proofs.YtgfjdkkfgclhjaaGreat.Bd
/- Not, And, Or, Xor; what each call answers, in one form. -/
namespace Go.Proofs.YtgfjdkkfgclhjaaGreat.Bd
open Go.RowKit Go.Proofs.YtgfjdkkfgclhjaaGreat Go.Proofs.YtgfjdkkfgclhjaaGreat.Lx Go.Maps

/-- node r is the function G, over variables of S -/
def OkSem (S : Nat → Bool) (G : Env → Bool) (nd' : List Nd) (r : Nat) : Prop := ∃ t, Den S nd' r t G
theorem ApiOut.mono {k : Blk} {s : St} {w w' : World} {R R' : Nat} {ok ok' : List Nd → Nat → Prop} {e : Ending} (h : ApiOut k s w R ok e w') (hR : R ≤ R') (ho : ∀ nd' r, (∃ ex, nd' = s.nd ++ ex) → ok nd' r → ok' nd' r) : ApiOut k s w R' ok' e w' := by
  obtain ⟨k', s1, r, U, hm, o, T, hw, hr, h⟩ := h
  exact ⟨k', s1, r, U, by omega, ho _ _ U.nd o, T, hw, hr, h⟩
theorem okSem_of {S : Nat → Bool} {G : Env → Bool} {P : Nat → Prop} {nd' : List Nd} {r : Nat} (h : ∃ t', P t' ∧ Den S nd' r t' G) : OkSem S G nd' r := by
  obtain ⟨t', _, d⟩ := h
  exact ⟨t', d⟩
theorem min_le (S : Nat → Bool) (a : Nat) : nS S a ≤ nS S 0 := nS_le S (Nat.zero_le _)
/-- Ite, said of functions -/
theorem Ite_sem (S : Nat → Bool) (k : Blk) (s : St) (f g h tf tg th n : Nat) (F G H : Env → Bool) (w : World) (hA : Ar w k s) (ad : Adm s) (g1 : s.gi f = true) (g2 : s.gi g = true) (g3 : s.gi h = true) (d1 : Den S s.nd f tf F) (d2 : Den S s.nd g tg G) (d3 : Den S s.nd h th H) (hn : nS S 0 ≤ n) (hm : s.m + 2 ^ (n + 1) ≤ 1000000000) :
    Calls Tryz.prog 59 #[.pointer (some ⟨k.p, 0, none⟩), .int .i64 f, .int .i64 g, .int .i64 h] w (ApiOut k s w (2 ^ (n + 1)) (OkSem S (fun ρ => if F ρ then G ρ else H ρ))) := by
  have hl := min_le S (min tf (min tg th))
  have hp : 2 ^ (nS S (min tf (min tg th)) + 1) ≤ 2 ^ (n + 1) := Nat.pow_le_pow_right (by omega) (by omega)
  refine (Ite_any S k s f g h tf tg th F G H w hA ad g1 g2 g3 d1 d2 d3 (by omega)).mono ?_
  intro e w' ho
  refine ho.mono hp (fun nd' r hex o => ?_)
  obtain ⟨t, _, d⟩ := o S tf tg th F G H d1 d2 d3
  exact ⟨t, d⟩
set_option maxRecDepth 100000 in
theorem Not_sem (S : Nat → Bool) (k : Blk) (s : St) (f tf n : Nat) (F : Env → Bool) (w : World) (hA : Ar w k s) (ad : Adm s) (g0 : s.gi 0 = true ∧ s.gi 1 = true) (g1 : s.gi f = true) (d1 : Den S s.nd f tf F) (hn : nS S 0 ≤ n) (hm : s.m + 2 ^ (n + 1) ≤ 1000000000) :
    Calls Tryz.prog 55 #[.pointer (some ⟨k.p, 0, none⟩), .int .i64 f] w (ApiOut k s w (2 ^ (n + 1)) (OkSem S (fun ρ => !F ρ))) := by
  have e : (fun ρ => !F ρ) = fun ρ => if F ρ then false else true := by funext ρ; cases F ρ <;> rfl
  rw [e]
  have HC := hide (Ite_sem S k s f 0 1 tf 256 256 n F _ _ w hA ad g1 g0.1 g0.2 d1 .zero .one hn hm)
  clear hA ad g0 g1 d1 hn hm e
  go_enter Tryz.func55, Tryz.ntmps55
  go_wp2_with fail
  refine HC.out.mono ?_
  intro e w1 hh
  obtain ⟨x, y, he, HX⟩ := api_two hh (Below.refl _ w)
  subst he
  have HX := hide HX
  clear hh
  go_wp2_with fail
  go_ret2
  exact HX.out
set_option maxRecDepth 100000 in
theorem And_sem (S : Nat → Bool) (k : Blk) (s : St) (f g tf tg n : Nat) (F G : Env → Bool) (w : World) (hA : Ar w k s) (ad : Adm s) (g0 : s.gi 0 = true ∧ s.gi 1 = true) (g1 : s.gi f = true) (g2 : s.gi g = true) (d1 : Den S s.nd f tf F) (d2 : Den S s.nd g tg G) (hn : nS S 0 ≤ n) (hm : s.m + 2 ^ (n + 1) ≤ 1000000000) :
    Calls Tryz.prog 56 #[.pointer (some ⟨k.p, 0, none⟩), .int .i64 f, .int .i64 g] w (ApiOut k s w (2 ^ (n + 1)) (OkSem S (fun ρ => F ρ && G ρ))) := by
  have e : (fun ρ => F ρ && G ρ) = fun ρ => if F ρ then G ρ else false := by funext ρ; cases F ρ <;> simp
  rw [e]
  have HC := hide (Ite_sem S k s f g 0 tf tg 256 n F G _ w hA ad g1 g2 g0.1 d1 d2 .zero hn hm)
  clear hA ad g0 g1 g2 d1 d2 hn hm e
  go_enter Tryz.func56, Tryz.ntmps56
  go_wp2_with fail
  refine HC.out.mono ?_
  intro e w1 hh
  obtain ⟨x, y, he, HX⟩ := api_two hh (Below.refl _ w)
  subst he
  have HX := hide HX
  clear hh
  go_wp2_with fail
  go_ret2
  exact HX.out
set_option maxRecDepth 100000 in
theorem Or_sem (S : Nat → Bool) (k : Blk) (s : St) (f g tf tg n : Nat) (F G : Env → Bool) (w : World) (hA : Ar w k s) (ad : Adm s) (g0 : s.gi 0 = true ∧ s.gi 1 = true) (g1 : s.gi f = true) (g2 : s.gi g = true) (d1 : Den S s.nd f tf F) (d2 : Den S s.nd g tg G) (hn : nS S 0 ≤ n) (hm : s.m + 2 ^ (n + 1) ≤ 1000000000) :
    Calls Tryz.prog 57 #[.pointer (some ⟨k.p, 0, none⟩), .int .i64 f, .int .i64 g] w (ApiOut k s w (2 ^ (n + 1)) (OkSem S (fun ρ => F ρ || G ρ))) := by
  have e : (fun ρ => F ρ || G ρ) = fun ρ => if F ρ then true else G ρ := by funext ρ; cases F ρ <;> simp
  rw [e]
  have HC := hide (Ite_sem S k s f 1 g tf 256 tg n F _ G w hA ad g1 g0.2 g2 d1 .one d2 hn hm)
  clear hA ad g0 g1 g2 d1 d2 hn hm e
  go_enter Tryz.func57, Tryz.ntmps57
  go_wp2_with fail
  refine HC.out.mono ?_
  intro e w1 hh
  obtain ⟨x, y, he, HX⟩ := api_two hh (Below.refl _ w)
  subst he
  have HX := hide HX
  clear hh
  go_wp2_with fail
  go_ret2
  exact HX.out
theorem cells2 (w : World) (a b : Int) : ∀ (j : Nat) (x : Int), [a, b][j]? = some x → (w.alloc (.cells #[.int .i64 a, .int .i64 b] 3)).cell? ⟨w.heap.size, j, none⟩ = some (.int .i64 x) := by
  intro j x hx
  refine cell_heap (heap_new _ _) ?_
  match j, hx with
  | 0, hx => simpa using hx
  | 1, hx => simpa using hx
  | j + 2, hx => simp at hx
set_option maxHeartbeats 1000000 in
set_option maxRecDepth 100000 in
theorem Xor_sem (S : Nat → Bool) (k : Blk) (s : St) (f g tf tg n : Nat) (F G : Env → Bool) (w : World) (hA : Ar w k s) (ad : Adm s) (g1 : s.gi f = true) (g2 : s.gi g = true) (d1 : Den S s.nd f tf F) (d2 : Den S s.nd g tg G) (hn : nS S 0 ≤ n) (hm : s.m + 2 ^ (n + 2) ≤ 1000000000) :
    Calls Tryz.prog 58 #[.pointer (some ⟨k.p, 0, none⟩), .int .i64 f, .int .i64 g] w (ApiOut k s w (2 ^ (n + 2)) (OkSem S (fun ρ => if F ρ then !G ρ else G ρ))) := by
  have hW := hA.wf
  have hnm := hA.nm
  have l1 := d1.lt hW
  have l2 := d2.lt hW
  have hp2 : 2 ^ (n + 2) = 2 * 2 ^ (n + 1) := by rw [Nat.pow_succ _ (n + 1)]; omega
  have hp1 : 2 ≤ 2 ^ (n + 1) := by have := Nat.one_le_two_pow (n := n); rw [Nat.pow_succ]; omega
  have hq : ∀ a, 2 ^ (nS S a + 1) ≤ 2 ^ (n + 1) := fun a => Nat.pow_le_pow_right (by omega) (by have := min_le S a; omega)
  have hbl := bel_one w (.cells #[.int .i64 f, .int .i64 g] 3)
  have HC := hide (check_any k s [(f : Int), g] w.heap.size _ (hA.below hbl) (cells2 w f g) (by simp; omega) (by simp))
  rw [show [(f : Int), g].length = 2 from rfl, gvn_all (s := s) (l := [(f : Int), g]) (by simp [g1, g2])] at HC
  have q1 := hq (min tg (min 256 256))
  have HI : Hid (Calls Tryz.prog 73 #[.pointer (some ⟨k.p, 0, none⟩), .int .i32 g, .int .i32 0, .int .i32 1] (w.alloc (.cells #[.int .i64 f, .int .i64 g] 3)) (NodeOut k s (w.alloc (.cells #[.int .i64 f, .int .i64 g] 3)) (2 ^ (nS S (min tg (min 256 256)) + 1)) (fun nd' r => OkIte s.nd nd' g 0 1 r))) := hide (ite_any S k s g 0 1 tg 256 256 G _ _ _ (hA.below hbl) d2 .zero .one (by omega))
  have HI2 : Hid (∀ (k1 : Blk) (s1 : St) (w1 : World) (x : Nat), Ar w1 k1 s1 → k1.p = k.p → Up s s1 → s1.m + 2 ≤ s.m + 2 ^ (n + 1) → OkIte s.nd s1.nd g 0 1 x → Calls Tryz.prog 73 #[.pointer (some ⟨k.p, 0, none⟩), .int .i32 f, .int .i32 x, .int .i32 g] w1 fun e w' => ∃ k' s' r, e = .returned (.int .i32 (r : Nat)) ∧ Ar w' k' s' ∧ Turn k1 k' w1 w' ∧ Up s s' ∧ s'.m + 2 ≤ s.m + 2 ^ (n + 2) ∧ ∃ t', anyB 0 t' ∧ Den S s'.nd r t' (fun ρ => if F ρ then !G ρ else G ρ)) := by
    intro k1 s1 w1 x hA1 hp U hm1 o
    obtain ⟨tx, _, dx⟩ := o S _ _ _ _ _ _ d2 .zero .one
    rw [← hp]
    have q2 := hq (min tf (min tx tg))
    refine (ite_any S k1 s1 f x g tf tx tg F _ G w1 hA1 (d1.up U) dx (d2.up U) (by omega)).mono ?_
    rintro e w' ⟨k', s', r, he, hA', hT', hU', hm', ho⟩
    obtain ⟨t', _, d⟩ := ho S _ _ _ _ _ _ (d1.up U) dx (d2.up U)
    refine ⟨k', s', r, he, hA', hT', U.trans hU', by omega, t', trivial, ?_⟩
    have e : (fun ρ => if F ρ then !G ρ else G ρ) = fun ρ => if F ρ then (if G ρ then false else true) else G ρ := by funext ρ; cases F ρ <;> cases G ρ <;> rfl
    rw [e]; exact d
  have HB := hide hbl
  have HAD := hide ad
  have HQ1 := hide q1
  have hw1 : IntKind.i32.wrap (f : Int) = f := wrap3 (by omega) (by omega)
  have hw2 : IntKind.i32.wrap (g : Int) = g := wrap3 (by omega) (by omega)
  generalize 2 ^ (nS S (min tg (min 256 256)) + 1) = R1 at *
  generalize hR : 2 ^ (n + 2) = R at *
  have HR := hide hR
  have HP2 := hide hp2
  clear hA ad g1 g2 d1 d2 hn hbl hq hR hp2
  go_enter Tryz.func58, Tryz.ntmps58
  go_wp2_with fail
  refine HC.out.mono ?_
  rintro e w1 ⟨rfl, rfl⟩
  go_wp2_with fail
  refine HI.out.mono ?_
  intro e w2 hh
  unfold NodeOut at hh
  obtain ⟨k1, s1, x, rfl, hA1, T1, U1, m1, o1⟩ := hh
  have hm12 : s1.m + 2 ≤ s.m + 2 ^ (n + 1) := by have := HQ1.out; omega
  have HC2 := hide (HI2.out k1 s1 w2 x hA1 T1.p U1 hm12 o1)
  have HT1 := hide T1
  clear hA1 T1 U1 m1 o1 HC HI HI2
  go_wp2_with fail
  refine HC2.out.mono ?_
  rintro e w3 ⟨k2, s2, r, rfl, hA2, T2, U2, m2, o2⟩
  have HG := hide (give_call hA2 o2 m2 hm U2 HAD.out (T2.p.trans HT1.out.p))
  have HT := hide ((Turn.below (k := k) HB.out).trans (HT1.out.trans T2))
  have HU := hide U2
  have HO := hide o2
  have HW := hide hA2.wf
  have HM := hide m2
  clear hA2 T2 U2 m2 o2 HC2
  go_wp2_with fail
  refine HG.out.mono ?_
  intro e w4 hg
  have HX := hide ((api_call HU.out HM.out HO.out HT.out HW.out hg).mono (Nat.le_refl _) (fun _ _ _ => okSem_of))
  obtain ⟨x', y', he, _⟩ := give_two hg
  subst he
  clear hg
  go_wp2_with fail
  go_ret2
  exact HX.out
end Go.Proofs.YtgfjdkkfgclhjaaGreat.Bd
/- At; Vars, Used; what a nil arena answers. -/
namespace Go.Proofs.YtgfjdkkfgclhjaaGreat.Bd
open Go.RowKit Go.Proofs.YtgfjdkkfgclhjaaGreat Go.Proofs.YtgfjdkkfgclhjaaGreat.Lx Go.Maps

def envOf (l : List Bool) : Env := fun x => l.getD x false
theorem srcB_at {w : World} {A : Option Addr} {m c : Nat} {l : List Bool} (h : Src w A m c 1 (l.map Value.bool)) {i : Nat} {x : Bool} (hx : l[i]? = some x) : ∃ ad, A = some ad ∧ w.cell? (ad.add i) = some (.bool x) := by
  obtain ⟨h1, ⟨_, h2, _⟩ | ⟨ad, h2, h3⟩⟩ := h
  · have := lt_of_some hx
    simp only [List.length_map] at h1
    omega
  · exact ⟨ad, h2, h3 i _ (by rw [List.getElem?_map, hx]; rfl)⟩
set_option maxHeartbeats 2000000 in
set_option maxRecDepth 100000 in
theorem At_any (S : Nat → Bool) (k : Blk) (s : St) (f t : Nat) (F : Env → Bool) (A : Option Addr) (c : Nat) (vals : List Bool) (w : World) (hA : Ar w k s) (g1 : s.gi f = true) (d : Den S s.nd f t F) (hS : Src w A vals.length c 1 (vals.map Value.bool)) (hn : vals.length = s.vs) (hv : s.vs ≤ 256) (hSv : ∀ x, S x = true → x < s.vs) (hm : s.m + 2 ≤ 1000000000) :
    Calls Tryz.prog 13 #[.pointer (some ⟨k.p, 0, none⟩), .int .i64 f, .slice A vals.length c] w fun e w' => e = .returned (.tuple #[.bool (F (envOf vals)), .int .i64 0]) ∧ Below w.heap.size w w' := by
  have hW := hA.wf
  have hnm := hA.nm
  have l1 := d.lt hW
  have hbl := bel_one w (.cells #[.int .i64 f] 3)
  have HC := hide (check_any k s [(f : Int)] w.heap.size _ (hA.below hbl) (cells1 w f) (by simp; omega) (by simp))
  rw [show [(f : Int)].length = 1 from rfl, gvn_all (s := s) (l := [(f : Int)]) (by simp [g1])] at HC
  have c0 : (w.alloc (.cells #[.int .i64 f] 3)).cell? ⟨k.p, 0, none⟩ = some (.int .i64 s.vs) := by obtain ⟨_, _, H, _⟩ := hA.below hbl; exact H.c0
  have hne : ((vals.length : Int) != s.vs) = false := by rw [hn]; simp
  have HA := hide hA
  have HB := hide hbl
  have HS := hide hS
  have HN := hide hn
  have HSV := hide hSv
  have HD := hide d
  clear hA hbl hS g1 hSv d
  have hv2 : vals.length ≤ 256 := by omega
  clear hn
  go_enter Tryz.func13, Tryz.ntmps13
  go_wp2_with fail
  refine HC.out.mono ?_
  rintro e w1 ⟨rfl, rfl⟩
  go_wp2_with fail
  have hw1 := HB.out
  generalize w.alloc (.cells #[.int .i64 f] 3) = w1 at *
  go_loopw [9, 10] (fun a _ wr => ∃ (i t : Nat) (G : Env → Bool), a = .int .i32 i ∧ Den S s.nd i t G ∧ G (envOf vals) = F (envOf vals) ∧ Below w.heap.size w wr) (fun a _ _ => (intOf a).toNat)
  case atStart => exact ⟨f, t, F, rfl, HD.out, rfl, hw1⟩
  case round =>
    obtain ⟨i, ti, G, rfl, dG, eG, hB⟩ := hrel
    have hil := dG.lt hW
    rcases Nat.lt_or_ge 1 i with hgt | hle
    · have d1 : decide (1 < (i : Int)) = true := by simp; omega
      obtain ⟨lo, hi, tl, th, Fl, Fh, hr, r1, r2, r3, r4, r5, r6, r7, dl, dh, eF⟩ := dG.row (by omega)
      have htv := HSV.out ti r7
      obtain ⟨b, hb⟩ : ∃ b, vals[ti]? = some b := ⟨_, List.getElem?_eq_getElem (by have := HN.out; omega)⟩
      have hbv : envOf vals ti = b := by unfold envOf; rw [List.getD_eq_getElem?_getD, hb]; rfl
      obtain ⟨fb, ft, H, I⟩ := HA.out.below hB
      obtain ⟨n0, n1, n2⟩ := H.node hr
      have c2 := H.c2
      have q1 : (i : Int) < s.nd.length := by omega
      have q2 : (ti : Int) < vals.length := by have := HN.out; omega
      have hB2 := (hB.alloc hB.size (.cells #[.int .i32 ti, .int .i32 lo, .int .i32 hi] 44))
      have z0 := cell_heap (j := 0) (heap_new wr (.cells #[.int .i32 ti, .int .i32 lo, .int .i32 hi] 44)) rfl
      have z0' : (wr.alloc (.cells #[.int .i32 ti, .int .i32 lo, .int .i32 hi] 44)).drew.cell? ⟨wr.heap.size, 0, none⟩ = some (.int .i32 ti) := z0
      obtain ⟨ad, rfl, hc⟩ := srcB_at (Src.below HS.out hB2) hb
      have hc' : (wr.alloc (.cells #[.int .i32 ti, .int .i32 lo, .int .i32 hi] 44)).drew.cell? (ad.add ti) = some (.bool b) := hc
      have HCT := hide (cut_any k s i ti b (wr.alloc (.cells #[.int .i32 ti, .int .i32 lo, .int .i32 hi] 44)).drew (HA.out.below hB2.drew) (by omega) (by omega) (by omega))
      obtain ⟨t', h1, d'⟩ := cut_den hW dG (v := ti) (Nat.le_refl _) r6 b
      have hce : (fun ρ => G (upd ρ ti b)) (envOf vals) = F (envOf vals) := by
        simp only
        have : upd (envOf vals) ti b = envOf vals := by
          funext x
          unfold upd
          split
          · rename_i e; rw [e, hbv]
          · rfl
        rw [this, eG]
      have hcl : cut s.nd i ti b < i := by
        unfold cut
        rw [hr]
        simp only [ne_eq, not_true_eq_false, if_false]
        cases b <;> simp <;> omega
      have HD2 := hide (And.intro d' hce)
      have HB2 := hide hB2.drew
      clear H I dl dh eF dG eG hr d' hce hB hB2 hb hbv
      generalize cut s.nd i ti b = i' at *
      go_wp2_with fail
      generalize wr.alloc (.cells #[.int .i32 ti, .int .i32 lo, .int .i32 hi] 44) = w3 at *
      go_still_tail 9, (by kernel_rfl)
      change wpList _ _ _ _ _ w3.drew
      go_wp2_with fail
      refine HCT.out.mono ?_
      rintro e w5 ⟨rfl, hb5⟩
      have HB5 := hide (HB2.out.trans (hb5.mono HB2.out.size))
      clear hb5
      go_wp2_with fail
      go_roundw
      case rel => exact ⟨i', t', _, rfl, HD2.out.1, HD2.out.2, HB5.out⟩
      case measure => simp [intOf]; omega
    · have d1 : decide (1 < (i : Int)) = false := by simp; omega
      obtain ⟨_, hF⟩ := dG.ends (by omega)
      have hv : decide (i = 1) = ((i : Int) == 1) := by
        rcases (by omega : i = 0 ∨ i = 1) with rfl | rfl <;> rfl
      have HV := hide (show ((i : Int) == 1) = F (envOf vals) by rw [← eG, hF, ← hv])
      have HB2 := hide hB
      clear dG eG hF hB
      go_wp2_with fail
      go_ret2
      exact ⟨by rw [← HV.out]; rfl, HB2.out⟩
theorem Vars_any (k : Blk) (s : St) (w : World) (hA : Ar w k s) : Calls Tryz.prog 5 #[.pointer (some ⟨k.p, 0, none⟩)] w fun e w' => e = .returned (.int .i64 s.vs) ∧ w = w' := by
  obtain ⟨_, _, H, _⟩ := hA
  have c0 := H.c0
  clear H
  go_enter Tryz.func5, Tryz.ntmps5
  go_wp2_with fail
  go_ret
  exact ⟨rfl, rfl⟩
theorem Used_any (k : Blk) (s : St) (w : World) (hA : Ar w k s) : Calls Tryz.prog 6 #[.pointer (some ⟨k.p, 0, none⟩)] w fun e w' => e = .returned (.int .i64 s.hn) ∧ w = w' := by
  obtain ⟨_, _, H, _⟩ := hA
  have c6 := H.c6
  have ul : ∀ ty, (Builtin.len_ #[49] ty #[.map (some k.he)]).run Tryz.prog w = .ok (.int .i64 s.hn) w := fun ty => H.he.len Tryz.underlying49 ty
  clear H
  go_enter Tryz.func6, Tryz.ntmps6
  go_wp2_with fail
  go_ret
  exact ⟨rfl, rfl⟩
end Go.Proofs.YtgfjdkkfgclhjaaGreat.Bd
/- below and Support: what the visit has in memory; the closure that collects. -/
namespace Go.Proofs.YtgfjdkkfgclhjaaGreat.Bd
open Go.RowKit Go.Proofs.YtgfjdkkfgclhjaaGreat Go.Proofs.YtgfjdkkfgclhjaaGreat.Lx Go.Maps

/-- what the visit has in memory: fr was met, gr was told -/
structure Bs (w0 w : World) (nd : List Nd) (p b1 b2 b3 b4 sb bo ba : Nat) (fr gr : List Nat) : Prop where
  c1 : w.heap[b1]? = some (.cells #[.map (some sb)] 49 (0, 0))
  c2 : w.heap[b2]? = some (.cells #[.func (.func 39) #[] #[.pointer (some ⟨bo, 0, none⟩), .pointer (some ⟨ba, 0, none⟩)]] 85 (0, 0))
  c3 : w.heap[b3]? = some (.cells #[.func (.func 64) #[] #[.pointer (some ⟨b1, 0, none⟩), .pointer (some ⟨b2, 0, none⟩), .pointer (some ⟨b3, 0, none⟩), .pointer (some ⟨b4, 0, none⟩)]] 85 (0, 0))
  c4 : w.heap[b4]? = some (.cells #[.pointer (some ⟨p, 0, none⟩)] 24 (0, 0))
  ca : w.heap[ba]? = some (.cells #[.pointer (some ⟨p, 0, none⟩)] 24 (0, 0))
  seen : MSet Tryz.prog w 21 4 sb (fr.length + 2) (fr.length + 2) enc3 (seenB fr)
  row : ∃ v, w.heap[bo]? = some (.cells #[v] 30 (0, 0)) ∧ w.ownsRow w0.heap.size 3 1 v gr.length (gr.map fun (x : Nat) => encI (topOf nd x))
  below : Below w0.heap.size w0 w
  l1 : w0.heap.size ≤ b1
  l2 : w0.heap.size ≤ b2
  l3 : w0.heap.size ≤ b3
  l4 : w0.heap.size ≤ b4
  l5 : w0.heap.size ≤ sb
  l6 : w0.heap.size ≤ bo
  l7 : w0.heap.size ≤ ba
theorem infoT : (Tryz.prog.info? 3).map (fun i => (i.zero, i.size, i.bytes)) = some (some (.int .i64 0), 1, 8) := by kernel_rfl

variable {w0 w w' : World} {nd : List Nd} {p b1 b2 b3 b4 sb bo ba : Nat} {fr gr : List Nat}
theorem Bs.drew (V : Bs w0 w nd p b1 b2 b3 b4 sb bo ba fr gr) : Bs w0 w.drew nd p b1 b2 b3 b4 sb bo ba fr gr := ⟨V.c1, V.c2, V.c3, V.c4, V.ca, V.seen, V.row, V.below.drew, V.l1, V.l2, V.l3, V.l4, V.l5, V.l6, V.l7⟩
/-- .. a node is marked as met -/
theorem Bs.mark (V : Bs w0 w nd p b1 b2 b3 b4 sb bo ba fr gr) {f : Nat} (hm : MSet Tryz.prog w' 21 4 sb (fr.length + 2 + 1) (fr.length + 2 + 1) enc3 (seenB (fr ++ [f]))) (hg : w.mapTurned w' sb) : Bs w0 w' nd p b1 b2 b3 b4 sb bo ba (fr ++ [f]) gr := by
  obtain ⟨es, cl, hs⟩ := V.seen.heap
  obtain ⟨v, hv, hr⟩ := V.row
  have hg := hg.grown
  have ne : ∀ {b : Nat} {cs : Array Value} {t : TypeId}, w.heap[b]? = some (.cells cs t (0, 0)) → some sb ≠ some b := fun h => opt_ne (Ne.symm (ne_kind h hs))
  have hl : (fr ++ [f]).length = fr.length + 1 := by simp
  refine ⟨heap_grown V.c1 hg (ne V.c1), heap_grown V.c2 hg (ne V.c2), heap_grown V.c3 hg (ne V.c3), heap_grown V.c4 hg (ne V.c4), heap_grown V.ca hg (ne V.ca), by rw [hl]; exact hm, ⟨v, heap_grown hv hg (ne hv), own_kept hr hg (fun g e1 e2 => ?_)⟩, V.below.grown hg V.below.size (fun b e => by injection e with e; have := V.l5; omega), V.l1, V.l2, V.l3, V.l4, V.l5, V.l6, V.l7⟩
  injection e1 with e1
  subst e1
  exact own_ne_map hr hs e2
/-- .. and told -/
theorem Bs.put {w2 : World} {f : Nat} {v v' : Value} (V : Bs w0 w nd p b1 b2 b3 b4 sb bo ba fr gr) (e3 : w.heap[bo]? = some (.cells #[v] 30 (0, 0))) (hr : w.ownsRow w0.heap.size 3 1 v gr.length (gr.map fun (x : Nat) => encI (topOf nd x)))
    (o : Obj) (hown : w2.ownsRow w0.heap.size 3 1 v' (gr.length + 1) ((gr.map fun (x : Nat) => encI (topOf nd x)) ++ [.int .i64 (topOf nd f)])) (hg : (w.alloc o).grownBy w2 v.ownBlock) :
    w2.heap[bo]? = some (.cells #[v] 30 (0, 0)) ∧ Bs w0 (w2.setCell ⟨bo, 0, none⟩ v') nd p b1 b2 b3 b4 sb bo ba fr (gr ++ [f]) := by
  have hl : (gr ++ [f]).length = gr.length + 1 := by simp
  have hr1 := hr.alloc o
  have f1 := heap_grown (heap_old (p := o) V.c1) hg (own_ne_row hr1 (heap_old V.c1) (by decide))
  have f2 := heap_grown (heap_old (p := o) V.c2) hg (own_ne_row hr1 (heap_old V.c2) (by decide))
  have f3 := heap_grown (heap_old (p := o) V.c3) hg (own_ne_row hr1 (heap_old V.c3) (by decide))
  have f4 := heap_grown (heap_old (p := o) V.c4) hg (own_ne_row hr1 (heap_old V.c4) (by decide))
  have f5 := heap_grown (heap_old (p := o) V.ca) hg (own_ne_row hr1 (heap_old V.ca) (by decide))
  have f6 := heap_grown (heap_old (p := o) e3) hg (own_ne_row hr1 (heap_old e3) (by decide))
  have em1 := V.seen.kept (World.grownBy_alloc w o none) (by simp)
  obtain ⟨es1, cl1, hs1⟩ := em1.heap
  have em2 := em1.kept hg (fun e => own_ne_map hr1 hs1 e.symm)
  obtain ⟨es2, cl2, hs2⟩ := em2.heap
  refine ⟨f6, heap_far f1 (heap_ne f1 f6 (by decide)), heap_far f2 (heap_ne f2 f6 (by decide)), heap_far f3 (heap_ne f3 f6 (by decide)), heap_far f4 (heap_ne f4 f6 (by decide)), heap_far f5 (heap_ne f5 f6 (by decide)), em2.setCell (Ne.symm (ne_kind f6 hs2)) _, ⟨v', ?_, ?_⟩, ?_, V.l1, V.l2, V.l3, V.l4, V.l5, V.l6, V.l7⟩
  · rw [heap_set f6]; simp
  · rw [hl, List.map_append]
    refine own_kept hown grown_set (fun g e1 e2 => ?_)
    injection e1 with e1
    subst e1
    exact own_ne_row hown f6 (by decide) e2
  · exact ((V.below.alloc V.below.size o).grown hg (by have := V.below.size; simp; omega) (fun b e => (hr1.lt b e).1)).setCell V.l6 _
set_option maxHeartbeats 4000000 in
set_option maxRecDepth 100000 in
theorem support1_any (k : Blk) (s : St) (f : Nat) (H : Ar w k s) (hp : k.p = p) (hf : f < s.nd.length) (hm : s.m + 2 ≤ 1000000000) (hgl : gr.length ≤ 1000000000) (V : Bs w0 w s.nd p b1 b2 b3 b4 sb bo ba fr gr) :
    Calls Tryz.prog 39 #[.int .i32 f, .pointer (some ⟨bo, 0, none⟩), .pointer (some ⟨ba, 0, none⟩)] w fun e w' => e = .returned (.tuple #[]) ∧ Bs w0 w' s.nd p b1 b2 b3 b4 sb bo ba fr (gr ++ [f]) := by
  subst hp
  obtain ⟨fb, ft, H, I⟩ := H
  obtain ⟨⟨t, lo, hi⟩, hx⟩ : ∃ x, s.nd[f]? = some x := ⟨_, List.getElem?_eq_getElem hf⟩
  have htop : topOf s.nd f = t := by unfold topOf; rw [hx]
  have ht : t ≤ 256 := by
    obtain ⟨t', F', d'⟩ := I.wf.den f hf
    rw [← htop, topOf_den I.wf d']
    exact d'.top.1
  have hnm := I.nm
  obtain ⟨n0, n1, n2⟩ := H.drew.node hx
  have c2 := H.drew.c2
  obtain ⟨v, e3, hr⟩ := V.row
  obtain ⟨A3, C3, rfl⟩ := own_slice hr
  have ka := cell_heap (j := 0) V.drew.ca rfl
  have k0 := cell_heap (w := w.drew) (j := 0) e3 rfl
  have k0' : ∀ o, (w.drew.alloc o).cell? ⟨bo, 0, none⟩ = some (.slice A3 gr.length C3) := fun o => cell_heap (heap_old (w := w.drew) e3) rfl
  have hfi : (f : Int) < s.nd.length := by omega
  obtain ⟨i1, hi1, iz1, is1, ib1⟩ := info_at infoT
  have HR := hide (show w.drew.ownsRow w0.heap.size 3 1 (.slice A3 gr.length C3) gr.length (gr.map fun (x : Nat) => encI (topOf s.nd x)) from hr)
  have HV := hide V.drew
  have E3 := hide (show w.drew.heap[bo]? = some (.cells #[.slice A3 gr.length C3] 30 (0, 0)) from e3)
  have HT := hide htop
  clear H I V e3 hr hx htop
  go_enter Tryz.func39, Tryz.ntmps39
  go_wp2_with fail
  refine wp_region_paths 12 [5] [[0, 1, 2, 3, 4, 6, 7, 8, 9, 10, 11, 12], [1, 0, 2, 3, 4, 6, 7, 8, 9, 10, 11, 12], [1, 2, 0, 3, 4, 6, 7, 8, 9, 10, 11, 12], [1, 2, 3, 0, 4, 6, 7, 8, 9, 10, 11, 12], [1, 2, 3, 4, 0, 6, 7, 8, 9, 10, 11, 12], [1, 2, 3, 4, 6, 0, 7, 8, 9, 10, 11, 12], [1, 2, 3, 4, 6, 7, 0, 8, 9, 10, 11, 12], [1, 2, 3, 4, 6, 7, 8, 0, 9, 10, 11, 12], [1, 2, 3, 4, 6, 7, 8, 9, 0, 10, 11, 12], [1, 2, 3, 4, 6, 7, 8, 9, 10, 0, 11, 12]] (by kernel_rfl) (by kernel_rfl) (by kernel_rfl) (by kernel_rfl) (.cons (.succ (.succ (.succ (.succ (.succ (.zero)))))) .nil) (.cons (.cons (.zero) (.cons (.succ (.zero)) (.cons (.succ (.succ (.zero))) (.cons (.succ (.succ (.succ (.zero)))) (.cons (.succ (.succ (.succ (.succ (.zero))))) (.cons (.succ (.succ (.succ (.succ (.succ (.succ (.zero))))))) (.cons (.succ (.succ (.succ (.succ (.succ (.succ (.succ (.zero)))))))) (.cons (.succ (.succ (.succ (.succ (.succ (.succ (.succ (.succ (.zero))))))))) (.cons (.succ (.succ (.succ (.succ (.succ (.succ (.succ (.succ (.succ (.zero)))))))))) (.cons (.succ (.succ (.succ (.succ (.succ (.succ (.succ (.succ (.succ (.succ (.zero))))))))))) (.cons (.succ (.succ (.succ (.succ (.succ (.succ (.succ (.succ (.succ (.succ (.succ (.zero)))))))))))) (.cons (.succ (.succ (.succ (.succ (.succ (.succ (.succ (.succ (.succ (.succ (.succ (.succ (.zero))))))))))))) .nil)))))))))))) (.cons (.cons (.succ (.zero)) (.cons (.zero) (.cons (.succ (.succ (.zero))) (.cons (.succ (.succ (.succ (.zero)))) (.cons (.succ (.succ (.succ (.succ (.zero))))) (.cons (.succ (.succ (.succ (.succ (.succ (.succ (.zero))))))) (.cons (.succ (.succ (.succ (.succ (.succ (.succ (.succ (.zero)))))))) (.cons (.succ (.succ (.succ (.succ (.succ (.succ (.succ (.succ (.zero))))))))) (.cons (.succ (.succ (.succ (.succ (.succ (.succ (.succ (.succ (.succ (.zero)))))))))) (.cons (.succ (.succ (.succ (.succ (.succ (.succ (.succ (.succ (.succ (.succ (.zero))))))))))) (.cons (.succ (.succ (.succ (.succ (.succ (.succ (.succ (.succ (.succ (.succ (.succ (.zero)))))))))))) (.cons (.succ (.succ (.succ (.succ (.succ (.succ (.succ (.succ (.succ (.succ (.succ (.succ (.zero))))))))))))) .nil)))))))))))) (.cons (.cons (.succ (.zero)) (.cons (.succ (.succ (.zero))) (.cons (.zero) (.cons (.succ (.succ (.succ (.zero)))) (.cons (.succ (.succ (.succ (.succ (.zero))))) (.cons (.succ (.succ (.succ (.succ (.succ (.succ (.zero))))))) (.cons (.succ (.succ (.succ (.succ (.succ (.succ (.succ (.zero)))))))) (.cons (.succ (.succ (.succ (.succ (.succ (.succ (.succ (.succ (.zero))))))))) (.cons (.succ (.succ (.succ (.succ (.succ (.succ (.succ (.succ (.succ (.zero)))))))))) (.cons (.succ (.succ (.succ (.succ (.succ (.succ (.succ (.succ (.succ (.succ (.zero))))))))))) (.cons (.succ (.succ (.succ (.succ (.succ (.succ (.succ (.succ (.succ (.succ (.succ (.zero)))))))))))) (.cons (.succ (.succ (.succ (.succ (.succ (.succ (.succ (.succ (.succ (.succ (.succ (.succ (.zero))))))))))))) .nil)))))))))))) (.cons (.cons (.succ (.zero)) (.cons (.succ (.succ (.zero))) (.cons (.succ (.succ (.succ (.zero)))) (.cons (.zero) (.cons (.succ (.succ (.succ (.succ (.zero))))) (.cons (.succ (.succ (.succ (.succ (.succ (.succ (.zero))))))) (.cons (.succ (.succ (.succ (.succ (.succ (.succ (.succ (.zero)))))))) (.cons (.succ (.succ (.succ (.succ (.succ (.succ (.succ (.succ (.zero))))))))) (.cons (.succ (.succ (.succ (.succ (.succ (.succ (.succ (.succ (.succ (.zero)))))))))) (.cons (.succ (.succ (.succ (.succ (.succ (.succ (.succ (.succ (.succ (.succ (.zero))))))))))) (.cons (.succ (.succ (.succ (.succ (.succ (.succ (.succ (.succ (.succ (.succ (.succ (.zero)))))))))))) (.cons (.succ (.succ (.succ (.succ (.succ (.succ (.succ (.succ (.succ (.succ (.succ (.succ (.zero))))))))))))) .nil)))))))))))) (.cons (.cons (.succ (.zero)) (.cons (.succ (.succ (.zero))) (.cons (.succ (.succ (.succ (.zero)))) (.cons (.succ (.succ (.succ (.succ (.zero))))) (.cons (.zero) (.cons (.succ (.succ (.succ (.succ (.succ (.succ (.zero))))))) (.cons (.succ (.succ (.succ (.succ (.succ (.succ (.succ (.zero)))))))) (.cons (.succ (.succ (.succ (.succ (.succ (.succ (.succ (.succ (.zero))))))))) (.cons (.succ (.succ (.succ (.succ (.succ (.succ (.succ (.succ (.succ (.zero)))))))))) (.cons (.succ (.succ (.succ (.succ (.succ (.succ (.succ (.succ (.succ (.succ (.zero))))))))))) (.cons (.succ (.succ (.succ (.succ (.succ (.succ (.succ (.succ (.succ (.succ (.succ (.zero)))))))))))) (.cons (.succ (.succ (.succ (.succ (.succ (.succ (.succ (.succ (.succ (.succ (.succ (.succ (.zero))))))))))))) .nil)))))))))))) (.cons (.cons (.succ (.zero)) (.cons (.succ (.succ (.zero))) (.cons (.succ (.succ (.succ (.zero)))) (.cons (.succ (.succ (.succ (.succ (.zero))))) (.cons (.succ (.succ (.succ (.succ (.succ (.succ (.zero))))))) (.cons (.zero) (.cons (.succ (.succ (.succ (.succ (.succ (.succ (.succ (.zero)))))))) (.cons (.succ (.succ (.succ (.succ (.succ (.succ (.succ (.succ (.zero))))))))) (.cons (.succ (.succ (.succ (.succ (.succ (.succ (.succ (.succ (.succ (.zero)))))))))) (.cons (.succ (.succ (.succ (.succ (.succ (.succ (.succ (.succ (.succ (.succ (.zero))))))))))) (.cons (.succ (.succ (.succ (.succ (.succ (.succ (.succ (.succ (.succ (.succ (.succ (.zero)))))))))))) (.cons (.succ (.succ (.succ (.succ (.succ (.succ (.succ (.succ (.succ (.succ (.succ (.succ (.zero))))))))))))) .nil)))))))))))) (.cons (.cons (.succ (.zero)) (.cons (.succ (.succ (.zero))) (.cons (.succ (.succ (.succ (.zero)))) (.cons (.succ (.succ (.succ (.succ (.zero))))) (.cons (.succ (.succ (.succ (.succ (.succ (.succ (.zero))))))) (.cons (.succ (.succ (.succ (.succ (.succ (.succ (.succ (.zero)))))))) (.cons (.zero) (.cons (.succ (.succ (.succ (.succ (.succ (.succ (.succ (.succ (.zero))))))))) (.cons (.succ (.succ (.succ (.succ (.succ (.succ (.succ (.succ (.succ (.zero)))))))))) (.cons (.succ (.succ (.succ (.succ (.succ (.succ (.succ (.succ (.succ (.succ (.zero))))))))))) (.cons (.succ (.succ (.succ (.succ (.succ (.succ (.succ (.succ (.succ (.succ (.succ (.zero)))))))))))) (.cons (.succ (.succ (.succ (.succ (.succ (.succ (.succ (.succ (.succ (.succ (.succ (.succ (.zero))))))))))))) .nil)))))))))))) (.cons (.cons (.succ (.zero)) (.cons (.succ (.succ (.zero))) (.cons (.succ (.succ (.succ (.zero)))) (.cons (.succ (.succ (.succ (.succ (.zero))))) (.cons (.succ (.succ (.succ (.succ (.succ (.succ (.zero))))))) (.cons (.succ (.succ (.succ (.succ (.succ (.succ (.succ (.zero)))))))) (.cons (.succ (.succ (.succ (.succ (.succ (.succ (.succ (.succ (.zero))))))))) (.cons (.zero) (.cons (.succ (.succ (.succ (.succ (.succ (.succ (.succ (.succ (.succ (.zero)))))))))) (.cons (.succ (.succ (.succ (.succ (.succ (.succ (.succ (.succ (.succ (.succ (.zero))))))))))) (.cons (.succ (.succ (.succ (.succ (.succ (.succ (.succ (.succ (.succ (.succ (.succ (.zero)))))))))))) (.cons (.succ (.succ (.succ (.succ (.succ (.succ (.succ (.succ (.succ (.succ (.succ (.succ (.zero))))))))))))) .nil)))))))))))) (.cons (.cons (.succ (.zero)) (.cons (.succ (.succ (.zero))) (.cons (.succ (.succ (.succ (.zero)))) (.cons (.succ (.succ (.succ (.succ (.zero))))) (.cons (.succ (.succ (.succ (.succ (.succ (.succ (.zero))))))) (.cons (.succ (.succ (.succ (.succ (.succ (.succ (.succ (.zero)))))))) (.cons (.succ (.succ (.succ (.succ (.succ (.succ (.succ (.succ (.zero))))))))) (.cons (.succ (.succ (.succ (.succ (.succ (.succ (.succ (.succ (.succ (.zero)))))))))) (.cons (.zero) (.cons (.succ (.succ (.succ (.succ (.succ (.succ (.succ (.succ (.succ (.succ (.zero))))))))))) (.cons (.succ (.succ (.succ (.succ (.succ (.succ (.succ (.succ (.succ (.succ (.succ (.zero)))))))))))) (.cons (.succ (.succ (.succ (.succ (.succ (.succ (.succ (.succ (.succ (.succ (.succ (.succ (.zero))))))))))))) .nil)))))))))))) (.cons (.cons (.succ (.zero)) (.cons (.succ (.succ (.zero))) (.cons (.succ (.succ (.succ (.zero)))) (.cons (.succ (.succ (.succ (.succ (.zero))))) (.cons (.succ (.succ (.succ (.succ (.succ (.succ (.zero))))))) (.cons (.succ (.succ (.succ (.succ (.succ (.succ (.succ (.zero)))))))) (.cons (.succ (.succ (.succ (.succ (.succ (.succ (.succ (.succ (.zero))))))))) (.cons (.succ (.succ (.succ (.succ (.succ (.succ (.succ (.succ (.succ (.zero)))))))))) (.cons (.succ (.succ (.succ (.succ (.succ (.succ (.succ (.succ (.succ (.succ (.zero))))))))))) (.cons (.zero) (.cons (.succ (.succ (.succ (.succ (.succ (.succ (.succ (.succ (.succ (.succ (.succ (.zero)))))))))))) (.cons (.succ (.succ (.succ (.succ (.succ (.succ (.succ (.succ (.succ (.succ (.succ (.succ (.zero))))))))))))) .nil)))))))))))) .nil)))))))))) (fun _ _ _ _ _ h => h) ?_
  repeat (first | go_big_quiet_step ((fail)) | quiet_step ((fail)))
  refine wpQuiet_nil ?_
  refine ⟨?_, ?_, ?_, ?_, ?_, ?_, ?_, ?_, ?_, Each.one ?_⟩
  all_goals (
    have hrow2 := hide (HR.out.alloc (Obj.cells #[.int .i64 t] 3))
    generalize w.drew = w1 at *
    go_wp2_with (at_builtin; go_must (refine wpList_append_own _ rfl (.tmp 4) (.tmp 14) 30 rfl w0.heap.size 3 i1 _ 1 8 Tryz.underlying30 hi1 iz1 is1 ib1 rfl (by decide) _ gr.length (gr.map fun (x : Nat) => encI (topOf s.nd x)) rfl hrow2.out ⟨w1.heap.size, 0, none⟩ 1 1 [.int .i64 t] rfl rfl ?cells ?ones ?c63 ?cby ?cbase ?_))
    case cells =>
      intro j u hj
      match j, hj with
      | 0, hj => simp at hj; subst hj; simp [Addr.add, go_sem]
      | j + 1, hj => simp at hj
    case ones => simp [Value.oneCell']
    case c63 => unfold maxLen; omega
    case cby => omega
    case cbase => have := HV.out.below.size; simp; omega
    intro v' w2 hown' hgrow _
    obtain ⟨A4, C4, rfl⟩ := own_slice hown'
    have hown2 := hown'
    rw [← HT.out] at hown2
    obtain ⟨f3, V3⟩ := HV.out.put E3.out HR.out _ hown2 hgrow
    have q4 := cell_heap (j := 0) f3 rfl
    have q4f : w2.frozen? ⟨bo, 0, none⟩ = false := frozen_heap f3
    have HV3 := hide V3
    clear V3 f3 hown' hown2 hgrow hrow2 n0 n1 n2 c2 ka k0 k0'
    go_wp2_with fail
    go_end0
    exact ⟨rfl, HV3.out⟩)
end Go.Proofs.YtgfjdkkfgclhjaaGreat.Bd
/- below: each node beneath one, once. -/
namespace Go.Proofs.YtgfjdkkfgclhjaaGreat.Bd
open Go.RowKit Go.Proofs.YtgfjdkkfgclhjaaGreat Go.Proofs.YtgfjdkkfgclhjaaGreat.Lx Go.Maps

/-- the nodes beneath f, in the order of the visit -/
abbrev noH : Int → Bool := fun _ => false
def beneath (nd : List Nd) (f : Nat) : List Nat := vis nd noH (f + 1) [] f
set_option maxHeartbeats 4000000 in
set_option maxRecDepth 100000 in
theorem below1_any (k : Blk) (s : St) (w0 : World) (hA : Ar w0 k s) (hm : s.m + 2 ≤ 1000000000) (b1 b2 b3 b4 sb bo ba : Nat) : ∀ (n f : Nat) (fr : List Nat) (w : World), f < n → f < s.nd.length → Met s.nd noH fr → Bs w0 w s.nd k.p b1 b2 b3 b4 sb bo ba fr fr →
    Calls Tryz.prog 64 #[.int .i32 f, .pointer (some ⟨b1, 0, none⟩), .pointer (some ⟨b2, 0, none⟩), .pointer (some ⟨b3, 0, none⟩), .pointer (some ⟨b4, 0, none⟩)] w fun e w' => e = .returned (.tuple #[]) ∧ Bs w0 w' s.nd k.p b1 b2 b3 b4 sb bo ba (vis s.nd noH n fr f) (vis s.nd noH n fr f) := by
  have hW := hA.wf
  have hnm := hA.nm
  intro n
  induction n with
  | zero => intro f fr w h; omega
  | succ n ih =>
    intro f fr w hfn hf hM V
    have hlen := hM.len
    have k1 := cell_heap (j := 0) V.c1 rfl
    have lk1 : (Instr.lookup 49 (.map (some sb)) (.int .i32 f) false).run Tryz.prog w = .ok (.bool (seenB fr f)) w := V.seen.look keyed3 Tryz.underlying49 Tryz.underlying4 (zeroB _) (key3 f (by omega) (by omega))
    cases hs : seenB fr f with
    | true =>
      rw [hs] at lk1
      have HV : Hid (Bs w0 w s.nd k.p b1 b2 b3 b4 sb bo ba (vis s.nd noH (n + 1) fr f) (vis s.nd noH (n + 1) fr f)) := by
        rw [seenB_nat] at hs
        have : vis s.nd noH (n + 1) fr f = fr := by
          unfold vis
          rw [if_pos]
          rcases of_decide_eq_true hs with h | h
          · exact .inl h
          · exact .inr (.inl h)
        rw [this]; exact V
      clear V hM ih hs hA
      go_enter Tryz.func64, Tryz.ntmps64
      go_wp2_with fail
      (try simp only [Exit.inBlock, Exit.then])
      refine bodyPost_ret (results_none rfl _ _ _) rfl ?_
      exact ⟨rfl, HV.out⟩
    | false =>
      rw [hs] at lk1
      have hsf := hs
      rw [seenB_nat] at hs
      have hc : ¬ (f < 2 ∨ f ∈ fr ∨ noH f = true) := by
        have := of_decide_eq_false hs
        rintro (h | h | h)
        · exact this (.inl h)
        · exact this (.inr h)
        · cases h
      obtain ⟨⟨v, lo, hi⟩, hx⟩ : ∃ x, s.nd[f]? = some x := ⟨_, List.getElem?_eq_getElem hf⟩
      obtain ⟨t, F, d⟩ := hW.den f hf
      obtain ⟨lo', hi', _, _, _, _, hr, r1, r2, _⟩ := d.row (by omega)
      rw [hx] at hr
      simp only [Option.some.injEq, Prod.mk.injEq] at hr
      obtain ⟨_, rfl, rfl⟩ := hr
      have hvis : vis s.nd noH (n + 1) fr f = vis s.nd noH n (vis s.nd noH n (fr ++ [f]) lo) hi := by
        conv => lhs; unfold vis
        rw [if_neg hc, hx]
      rw [hvis]
      have HM := hide (hM.push hc hf)
      have HM2 := hide (vis_met hW n (fr ++ [f]) lo (by omega) HM.out)
      have HI1 := hide (fun w => ih lo (fr ++ [f]) w (by omega) (by omega) HM.out)
      have HI2 := hide (fun w => ih hi (vis s.nd noH n (fr ++ [f]) lo) w (by omega) (by omega) HM2.out)
      have HVV := hide V
      have HA0 := hide hA
      have HX := hide hx
      have hfl : (fr ++ [f]).length = fr.length + 1 := by simp
      clear ih d V hvis hA hx
      go_enter Tryz.func64, Tryz.ntmps64
      go_wp2_with (at_mapUpdate; go_must (refine wpList_add rfl (.tmp 9) (.tmp 10) _ rfl HVV.out.seen keyed3 Tryz.underlying49 Tryz.underlying4 (by unfold maxLen; omega) enc3_inj rfl (f : Int) _ rfl (key3 f (by omega) (by omega)) rfl ?_))
      simp only [hsf, Bool.false_eq_true, if_false, seenB_push]
      intro w1 hms hmt
      have HV1 := hide (HVV.out.mark hms hmt)
      clear hms hmt lk1 k1 hfl HVV
      have k2 := cell_heap (j := 0) HV1.out.c2 rfl
      go_wp2_with fail
      refine (support1_any k s f (HA0.out.below HV1.out.below) rfl hf hm (by omega) HV1.out).mono ?_
      rintro e w3 ⟨rfl, V3⟩
      have HV3 := hide V3
      clear V3 k2 HV1
      go_wp2_with fail
      have r0 : (f : Int) < s.nd.length := by omega
      obtain ⟨_, _, H3, _⟩ := HA0.out.below HV3.out.below
      have g4 : w3.drew.cell? ⟨b3, 0, none⟩ = some _ := cell_heap HV3.out.c3 rfl
      have g2 : w3.drew.cell? ⟨b4, 0, none⟩ = some (.pointer (some ⟨k.p, 0, none⟩)) := cell_heap HV3.out.c4 rfl
      have g5 := H3.drew.c2
      have g6 := (H3.drew.node HX.out).2.1
      go_still_tail 9, (by kernel_rfl)
      change wpList _ _ _ _ _ w3.drew
      have HV4 := hide HV3.out.drew
      generalize w3.drew = w4 at *
      clear g4 g2 g5 g6 H3 HV3
      go_wp2_with fail
      refine (HI1.out _ HV4.out).mono ?_
      rintro e w5 ⟨rfl, V5⟩
      have HV5 := hide V5
      clear V5 HV4
      go_wp2_with fail
      obtain ⟨_, _, H5, _⟩ := HA0.out.below HV5.out.below
      have g4 : w5.drew.cell? ⟨b3, 0, none⟩ = some _ := cell_heap HV5.out.c3 rfl
      have g2 : w5.drew.cell? ⟨b4, 0, none⟩ = some (.pointer (some ⟨k.p, 0, none⟩)) := cell_heap HV5.out.c4 rfl
      have g5 := H5.drew.c2
      have g6 := (H5.drew.node HX.out).2.2
      go_still_tail 9, (by kernel_rfl)
      change wpList _ _ _ _ _ w5.drew
      have HV6 := hide HV5.out.drew
      generalize w5.drew = w6 at *
      clear g4 g2 g5 g6 H5 HV5
      go_wp2_with fail
      refine (HI2.out _ HV6.out).mono ?_
      rintro e w7 ⟨rfl, V7⟩
      have HV7 := hide V7
      clear V7 HV6
      go_wp2_with fail
      go_end0
      exact ⟨rfl, HV7.out⟩
end Go.Proofs.YtgfjdkkfgclhjaaGreat.Bd
/- below, Support. -/
namespace Go.Proofs.YtgfjdkkfgclhjaaGreat.Bd
open Go.RowKit Go.Proofs.YtgfjdkkfgclhjaaGreat Go.Proofs.YtgfjdkkfgclhjaaGreat.Lx Go.Maps

theorem bs_start {w0 w w1 w2 : World} {nd : List Nd} {p bo ba : Nat} (hB : Below w0.heap.size w0 w) (hbo : w.heap[bo]? = some (.cells #[.slice none 0 0] 30 (0, 0))) (hba : w.heap[ba]? = some (.cells #[.pointer (some ⟨p, 0, none⟩)] 24 (0, 0))) (l6 : w0.heap.size ≤ bo) (l7 : w0.heap.size ≤ ba)
    (ht1 : World.mapTurned (((w.alloc (.cells #[.pointer (some ⟨p, 0, none⟩)] 24)).alloc (.cells #[.func (.func 39) #[] #[.pointer (some ⟨bo, 0, none⟩), .pointer (some ⟨ba, 0, none⟩)]] 85)).alloc (.map #[] 0)) w1 (w.heap.size + 2)) (ht2 : w1.mapTurned w2 (w.heap.size + 2))
    (hm : MSet Tryz.prog w2 21 4 (w.heap.size + 2) 2 2 enc3 fun x => decide (x = 1) || decide (x = 0)) :
    Bs w0 ((w2.alloc (.cells #[.map (some (w.heap.size + 2))] 49)).alloc (.cells #[(.func (.func 64) #[] #[.pointer (some ⟨w2.heap.size, 0, none⟩), .pointer (some ⟨w.heap.size + 1, 0, none⟩), .pointer (some ⟨w2.heap.size + 1, 0, none⟩), .pointer (some ⟨w.heap.size, 0, none⟩)])] 85))
      nd p w2.heap.size (w.heap.size + 1) (w2.heap.size + 1) w.heap.size (w.heap.size + 2) bo ba [] [] := by
  have hg := (ht1.trans ht2).grown
  have hs := hg.size
  simp only [World.size_alloc] at hs
  have hsw := hB.size
  have lbo := lt_heap hbo
  have lba := lt_heap hba
  have c4 : w2.heap[w.heap.size]? = some (.cells #[.pointer (some ⟨p, 0, none⟩)] 24 (0, 0)) := heap_grown (heap_old (heap_old (heap_new _ _))) hg (opt_ne (by omega))
  have c2 : w2.heap[w.heap.size + 1]? = some (.cells #[.func (.func 39) #[] #[.pointer (some ⟨bo, 0, none⟩), .pointer (some ⟨ba, 0, none⟩)]] 85 (0, 0)) := by
    have := heap_new (w.alloc (.cells #[.pointer (some ⟨p, 0, none⟩)] 24)) (.cells #[.func (.func 39) #[] #[.pointer (some ⟨bo, 0, none⟩), .pointer (some ⟨ba, 0, none⟩)]] 85)
    rw [show (w.alloc (.cells #[.pointer (some ⟨p, 0, none⟩)] 24)).heap.size = w.heap.size + 1 by simp] at this
    exact heap_grown (heap_old this) hg (opt_ne (by omega))
  have co : w2.heap[bo]? = some (.cells #[.slice none 0 0] 30 (0, 0)) := heap_grown (heap_old (heap_old (heap_old hbo))) hg (opt_ne (by omega))
  have ca : w2.heap[ba]? = some (.cells #[.pointer (some ⟨p, 0, none⟩)] 24 (0, 0)) := heap_grown (heap_old (heap_old (heap_old hba))) hg (opt_ne (by omega))
  have hb : Below w.heap.size w w2 := ((((Below.refl _ w).alloc (Nat.le_refl _) _).alloc (by simp) _).alloc (by simp; omega) _).grown hg (by simp; omega) (fun b e => by injection e with e; omega)
  have hb0 : Below w0.heap.size w0 w2 := hB.trans (hb.mono hsw)
  refine ⟨heap_old (heap_new _ _), heap_old (heap_old c2), ?_, heap_old (heap_old c4), heap_old (heap_old ca), ?_, ⟨.slice none 0 0, heap_old (heap_old co), ⟨rfl, .inl ⟨rfl, rfl⟩⟩⟩, (hb0.alloc (by omega) _).alloc (by simp; omega) _, by omega, by omega, by omega, by omega, by omega, l6, l7⟩
  · have := heap_new (w2.alloc (.cells #[.map (some (w.heap.size + 2))] 49)) (.cells #[(.func (.func 64) #[] #[.pointer (some ⟨w2.heap.size, 0, none⟩), .pointer (some ⟨w.heap.size + 1, 0, none⟩), .pointer (some ⟨w2.heap.size + 1, 0, none⟩), .pointer (some ⟨w.heap.size, 0, none⟩)])] 85)
    rw [show (w2.alloc (.cells #[.map (some (w.heap.size + 2))] 49)).heap.size = w2.heap.size + 1 by simp] at this
    exact this
  · have e : (fun x : Int => decide (x = 1) || decide (x = 0)) = seenB [] := by rw [← seen_start]; funext x; simp
    rw [e] at hm
    exact (hm.kept (World.grownBy_alloc _ _ none) (by simp)).kept (World.grownBy_alloc _ _ none) (by simp)
def ToldOut (w0 : World) (nd : List Nd) (bo f : Nat) (e : Ending) (w' : World) : Prop := e = .returned (.tuple #[]) ∧ ∃ v, w'.heap[bo]? = some (.cells #[v] 30 (0, 0)) ∧ w'.ownsRow w0.heap.size 3 1 v (beneath nd f).length ((beneath nd f).map fun (x : Nat) => encI (topOf nd x)) ∧ Below w0.heap.size w0 w'
set_option maxHeartbeats 1000000 in
set_option maxRecDepth 100000 in
theorem below_any (k : Blk) (s : St) (w0 w : World) (hA : Ar w0 k s) (hm : s.m + 2 ≤ 1000000000) (f bo ba : Nat) (hf : f < s.nd.length) (hB : Below w0.heap.size w0 w) (hbo : w.heap[bo]? = some (.cells #[.slice none 0 0] 30 (0, 0))) (hba : w.heap[ba]? = some (.cells #[.pointer (some ⟨k.p, 0, none⟩)] 24 (0, 0))) (l6 : w0.heap.size ≤ bo) (l7 : w0.heap.size ≤ ba) :
    Calls Tryz.prog 37 #[.pointer (some ⟨k.p, 0, none⟩), .int .i32 f, .func (.func 39) #[] #[.pointer (some ⟨bo, 0, none⟩), .pointer (some ⟨ba, 0, none⟩)]] w (ToldOut w0 s.nd bo f) := by
  have HA := hide hA
  have HB := hide (And.intro hB (And.intro hbo hba))
  have HMS := hide (MSet.made (P := Tryz.prog) ((w.alloc (.cells #[.pointer (some ⟨k.p, 0, none⟩)] 24)).alloc (.cells #[.func (.func 39) #[] #[.pointer (some ⟨bo, 0, none⟩), .pointer (some ⟨ba, 0, none⟩)]] 85)) 21 4 enc3)
  have hsz : ((w.alloc (.cells #[.pointer (some ⟨k.p, 0, none⟩)] 24)).alloc (.cells #[.func (.func 39) #[] #[.pointer (some ⟨bo, 0, none⟩), .pointer (some ⟨ba, 0, none⟩)]] 85)).heap.size = w.heap.size + 2 := by simp
  rw [hsz] at HMS
  have hmm := @run_makeMap Tryz.prog
  clear hA hB hbo hba hsz
  go_enter Tryz.func37, Tryz.ntmps37
  go_wp2_with (refine wpList_ins rfl (.tmp 8) _ _ rfl HMS.out keyed3 Tryz.underlying49 Tryz.underlying4 (by unfold maxLen; omega) enc3_inj rfl (0 : Int) _ rfl (key3 0 (by omega) (by omega)) rfl ?_)
  intro w1 hm1 ht1
  have HM1 := hide hm1
  have HT1 := hide ht1
  clear hm1 ht1
  go_wp2_with (refine wpList_ins rfl (.tmp 8) _ _ rfl HM1.out keyed3 Tryz.underlying49 Tryz.underlying4 (by unfold maxLen; omega) enc3_inj rfl (1 : Int) _ rfl (key3 1 (by omega) (by omega)) rfl ?_)
  intro w2 hm2 ht2
  have HM2 := hide hm2
  have HT2 := hide ht2
  clear hm2 ht2
  have HV := hide (bs_start (nd := s.nd) HB.out.1 HB.out.2.1 HB.out.2.2 l6 l7 HT1.out HT2.out HM2.out)
  go_wp2_with fail
  refine (below1_any k s w0 HA.out hm _ _ _ _ _ _ _ (f + 1) f [] _ (by omega) hf (Met.nil _ _) HV.out).mono ?_
  rintro e w5 ⟨rfl, V5⟩
  obtain ⟨v, e1, e2⟩ := V5.row
  have HX := hide (show ToldOut w0 s.nd bo f (.returned (.tuple #[])) w5 from ⟨rfl, v, e1, e2, V5.below⟩)
  clear V5 e1 e2 HV HT1 HT2 HM1 HM2 HMS hmm
  go_wp2_with fail
  go_end0
  exact HX.out

/-- the variables on which f hangs -/
def supL (nd : List Nd) (f : Nat) : List Int := Lib.compact (((beneath nd f).map fun x => (topOf nd x : Int)).mergeSort fun x y => decide (x ≤ y))
def SupOut (nd : List Nd) (f : Nat) (w : World) (e : Ending) (w' : World) : Prop := ∃ v, e = .returned (.tuple #[v, .int .i64 0]) ∧ w'.ownsRow w.heap.size 3 1 v (supL nd f).length ((supL nd f).map encI) ∧ Below w.heap.size w w'
theorem own_grow {w : World} {base size n : Nat} {e : TypeId} {v : Value} {xs : List Value} {os : Array Obj} (h : w.ownsRow base e size v n xs) : (Sort.grow w os).ownsRow base e size v n xs := by
  refine ⟨h.1, ?_⟩
  rcases h.2 with h2 | ⟨g, cap, cur, h1, h2, h3, h4⟩
  · exact .inl h2
  · refine .inr ⟨g, cap, cur, h1, h2, ?_, h4⟩
    show (w.heap ++ os)[g]? = _
    rw [Array.getElem?_append_left (lt_heap h3)]
    exact h3
theorem encI_eq : encI = Value.int .i64 := rfl
theorem compact_len (zs : List Int) : (Lib.compact zs).length ≤ zs.length := by
  show (Lib.compactUpTo _ _).length ≤ _
  unfold Lib.compactUpTo
  rw [List.length_map]
  refine Nat.le_trans (List.length_filter_le _ _) ?_
  simp
set_option maxHeartbeats 1000000 in
set_option maxRecDepth 100000 in
theorem Support_any (k : Blk) (s : St) (f : Nat) (w : World) (hA : Ar w k s) (g1 : s.gi f = true) (hf : f < s.nd.length) (hm : s.m + 2 ≤ 1000000000) :
    Calls Tryz.prog 16 #[.pointer (some ⟨k.p, 0, none⟩), .int .i64 f] w (SupOut s.nd f w) := by
  have hW := hA.wf
  have hnm := hA.nm
  have hb1 := bel_one w (.cells #[.pointer (some ⟨k.p, 0, none⟩)] 24)
  have x0 := heap_new w (.cells #[.pointer (some ⟨k.p, 0, none⟩)] 24)
  obtain ⟨W, hWd⟩ : ∃ W, W = (w.alloc (.cells #[.pointer (some ⟨k.p, 0, none⟩)] 24)) := ⟨_, rfl⟩
  rw [← hWd] at hb1 x0
  have hsW : W.heap.size = w.heap.size + 1 := by rw [hWd]; simp
  have hbl := below_wide hb1 (bel_one W (.cells #[.int .i64 f] 3))
  have HC := hide (check_any k s [(f : Int)] W.heap.size _ (hA.below hbl) (cells1 W f) (by simp; omega) (by simp))
  rw [show [(f : Int)].length = 1 from rfl, gvn_all (s := s) (l := [(f : Int)]) (by simp [g1]), hsW] at HC
  have y9 : W.cell? ⟨w.heap.size, 0, none⟩ = some (.pointer (some ⟨k.p, 0, none⟩)) := cell_heap x0 rfl
  have HX0 := hide (heap_old (p := .cells #[.int .i64 f] 3) x0)
  have hs2 : (W.alloc (.cells #[.int .i64 f] 3)).heap.size = w.heap.size + 2 := by simp [hsW]
  have hbn := heap_new (W.alloc (.cells #[.int .i64 f] 3)) (.cells #[.slice none 0 0] 30)
  rw [hs2] at hbn
  have HBE := hide (below_any k s w ((W.alloc (.cells #[.int .i64 f] 3)).alloc (.cells #[.slice none 0 0] 30)) hA hm f (w.heap.size + 1 + 1) w.heap.size hf (below_wide hbl (bel_one _ _)) hbn (heap_old HX0.out) (by omega) (Nat.le_refl _))
  have y0 : ((W.alloc (.cells #[.int .i64 f] 3)).alloc (.cells #[.slice none 0 0] 30)).cell? ⟨w.heap.size, 0, none⟩ = some (.pointer (some ⟨k.p, 0, none⟩)) := cell_heap (heap_old HX0.out) rfl
  have y1 : (W.alloc (.cells #[.int .i64 f] 3)).cell? ⟨w.heap.size, 0, none⟩ = some (.pointer (some ⟨k.p, 0, none⟩)) := cell_heap HX0.out rfl
  have HM := hide (vis_met hW (he := noH) (f + 1) [] f hf (Met.nil _ _))
  have HL := hide HM.out.len
  clear hA g1 hb1 x0 hsW hbl hbn hs2
  subst hWd
  go_enter Tryz.func16, Tryz.ntmps16
  go_wp2_with fail
  refine HC.out.mono ?_
  rintro e w1 ⟨rfl, rfl⟩
  have hwr : IntKind.i32.wrap (f : Int) = f := wrap3 (by omega) (by omega)
  go_wp2_with fail
  refine HBE.out.mono ?_
  intro e w2 hh
  unfold ToldOut at hh
  obtain ⟨rfl, v, e3, hrow, hB⟩ := hh
  have hn : (beneath s.nd f).length ≤ 1000000002 := by have := HL.out; unfold beneath; omega
  have hmap : ((beneath s.nd f).map fun (x : Nat) => encI (topOf s.nd x)) = ((beneath s.nd f).map fun x => (topOf s.nd x : Int)).map encI := by rw [List.map_map]; rfl
  rw [hmap] at hrow
  obtain ⟨zs, hzs⟩ : ∃ zs, zs = (beneath s.nd f).map fun x => (topOf s.nd x : Int) := ⟨_, rfl⟩
  have hzl : (beneath s.nd f).length = zs.length := by rw [hzs]; simp
  have hsup : supL s.nd f = Lib.compact (zs.mergeSort fun x y => decide (x ≤ y)) := by unfold supL; rw [hzs]
  rw [hzl, ← hzs] at hrow
  rw [hzl] at hn
  have HSU := hide hsup
  clear HC HBE y0 y1 y9 HX0 hmap hzl hsup hzs HM HL
  rcases hrow.2 with ⟨rfl, hn0⟩ | ⟨g, cap, cur, rfl, q1, q2, q3, q4, q5, q6⟩
  · have hz0 : zs = [] := List.eq_nil_of_length_eq_zero hn0
    subst hz0
    have k1 := cell_heap (j := 0) e3 rfl
    have HS := hide (fun W => Tryz.slices_Sort_int_none none 0 W)
    have HK := hide (fun W => Tryz.slices_Compact_int_empty none 0 W)
    have HX := hide (show SupOut s.nd f w (.returned (.tuple #[Value.slice none 0 0, .int .i64 0])) w2 from by
      unfold SupOut
      rw [HSU.out]
      have e : Lib.compact (([] : List Int).mergeSort fun x y => decide (x ≤ y)) = [] := by
        have := compact_len (([] : List Int).mergeSort fun x y => decide (x ≤ y))
        exact List.eq_nil_of_length_eq_zero (by simpa using this)
      rw [e]
      exact ⟨_, rfl, ⟨rfl, .inl ⟨rfl, rfl⟩⟩, hB⟩)
    clear hrow hB e3
    go_wp2_with fail
    refine (HS.out _).mono ?_; rintro e w3 ⟨rfl, rfl⟩
    go_wp2_with fail
    refine (HK.out _).mono ?_; rintro e w4 ⟨rfl, rfl⟩
    go_wp2_with fail
    go_ret2
    exact HX.out
  · obtain ⟨g', cap', f1, f2, f3, f4, f5, f6, f7⟩ := Lib.holds_of_ownsRow hrow (by intro e; cases e)
    injection f1 with f1 _ fc
    injection f1 with f1
    injection f1 with f1
    subst f1 fc
    have HS := hide (Tryz.slices_Sort_int g 0 cap zs w2 f7 f3 (by omega))
    have k1 := cell_heap (j := 0) e3 rfl
    have HB := hide hB
    have HO := hide hrow
    have HE3 := hide e3
    have hs : (zs.mergeSort fun x y => decide (x ≤ y)).length = zs.length := List.length_mergeSort _
    have hgo : g ≠ w.heap.size + 1 + 1 := heap_ne q2 e3 (by decide)
    clear hB hrow f7 q2 q5 q6 e3
    go_wp2_with fail
    refine HS.out.mono ?_; rintro e w3 ⟨rfl, m, os, hw3⟩
    have hown3 : w3.ownsRow w.heap.size 3 1 (.slice (some ⟨g, 0, none⟩) zs.length cap) zs.length ((zs.mergeSort fun x y => decide (x ≤ y)).map encI) := by
      have := Lib.ownsRow_putRow (q := m) HO.out hs (Nat.le_refl zs.length)
      rw [List.take_of_length_le (by omega)] at this
      rw [hw3]
      exact own_grow this
    have hb3 : Below w.heap.size w w3 := by
      rw [hw3]
      exact (Lib.below_putRow HB.out f2).trans ((Lib.below_grow _ _ (Nat.le_refl _) 0 os).mono (by
        have := HB.out.size
        simpa [Sort.putRow, Sort.mapBlock, Sort.ahead] using this))
    have hg3 : w2.grownBy w3 (some g) := by rw [hw3]; exact Go.grownBy_sortedI _
    have e33 := heap_grown HE3.out hg3 (opt_ne hgo)
    obtain ⟨_, _, r1, r2, r3, r4, r5, r6, r7⟩ := Lib.holds_of_ownsRow hown3 (by intro e; cases e)
    injection r1 with r1 _ rc
    injection r1 with r1
    injection r1 with r1
    subst r1 rc
    have HK := Tryz.slices_Compact_int g 0 cap _ w3 r7 (by rw [hs]; omega) (by rw [hs]; omega)
    rw [hs] at HK
    have HK2 := hide HK
    have HO2 := hide hown3
    have HB2 := hide hb3
    have k2 := cell_heap (j := 0) e33 rfl
    clear HK hown3 hb3 hw3 r7 hg3 e33
    go_wp2_with fail
    refine HK2.out.mono ?_; rintro e w4 ⟨rfl, q, hw4⟩
    have HW4 := hide hw4
    have hlen := compact_len (zs.mergeSort fun x y => decide (x ≤ y))
    rw [hs] at hlen
    have HX := hide (show SupOut s.nd f w (.returned (.tuple #[Value.slice (some ⟨g, 0, none⟩) (Lib.compact (zs.mergeSort fun x y => decide (x ≤ y))).length cap, .int .i64 0])) w4 from by
      unfold SupOut
      rw [HSU.out]
      refine ⟨_, rfl, ?_, ?_⟩
      · have := Lib.ownsRow_putRow (q := q) (ys := Lib.compact (zs.mergeSort fun x y => decide (x ≤ y)) ++ List.replicate (zs.length - (Lib.compact (zs.mergeSort fun x y => decide (x ≤ y))).length) 0) HO2.out (by simp; omega) hlen
        rw [HW4.out]
        rw [encI_eq] at this ⊢
        simpa using this
      · rw [HW4.out]
        exact Lib.below_putRow HB2.out f2)
    clear hw4
    go_wp2_with fail
    go_ret2
    exact HX.out
end Go.Proofs.YtgfjdkkfgclhjaaGreat.Bd
/- Plain words on rows of numbers: a row in form (each number once, rising). No program is in sight. -/
namespace Go.Proofs.YtgfjdkkfgclhjaaGreat.Ld
open Go

/-- the form of a row: sorted, each number once -/
def normL (l : List Int) : List Int := Lib.compact (l.mergeSort fun x y => decide (x ≤ y))
/-- rising -/
def Up (l : List Int) : Prop := l.Pairwise (· < ·)

theorem up_eq : ∀ (a b : List Int), Up a → Up b → (∀ x, x ∈ a ↔ x ∈ b) → a = b := by
  intro a
  induction a with
  | nil =>
    intro b _ _ h
    cases b with
    | nil => rfl
    | cons y ys => exact absurd ((h y).2 (List.mem_cons_self ..)) (by simp)
  | cons x xs ih =>
    intro b ha hb h
    cases b with
    | nil => exact absurd ((h x).1 (List.mem_cons_self ..)) (by simp)
    | cons y ys =>
      have ha' := List.pairwise_cons.1 ha
      have hb' := List.pairwise_cons.1 hb
      have hxy : x = y := by
        have h1 := (h x).1 (List.mem_cons_self ..)
        have h2 := (h y).2 (List.mem_cons_self ..)
        rcases List.mem_cons.1 h1 with h1 | h1
        · exact h1
        · rcases List.mem_cons.1 h2 with h2 | h2
          · exact h2.symm
          · have := ha'.1 y h2
            have := hb'.1 x h1
            omega
      subst hxy
      congr 1
      refine ih ys ha'.2 hb'.2 (fun z => ⟨fun hz => ?_, fun hz => ?_⟩)
      · rcases List.mem_cons.1 ((h z).1 (List.mem_cons_of_mem _ hz)) with e | e
        · have := ha'.1 z hz; omega
        · exact e
      · rcases List.mem_cons.1 ((h z).2 (List.mem_cons_of_mem _ hz)) with e | e
        · have := hb'.1 z hz; omega
        · exact e

theorem get_bang (l : List Int) (j : Nat) (h : j < l.length) : l.toArray[j]! = l[j] := by
  rw [getElem!_pos l.toArray j (by simpa using h)]
  simp

theorem comp_inv (l : List Int) (hs : l.Pairwise (fun x y => x ≤ y)) : ∀ m, m ≤ l.length →
    Up (Lib.compactUpTo l.toArray m) ∧ (∀ x, x ∈ Lib.compactUpTo l.toArray m ↔ x ∈ l.take m) := by
  intro m
  induction m with
  | zero => intro _; exact ⟨List.Pairwise.nil, fun x => by simp [Lib.compactUpTo]⟩
  | succ m ih =>
    intro hm
    obtain ⟨h1, h2⟩ := ih (by omega)
    rw [Lib.compactUpTo_succ, get_bang l m (by omega)]
    have ht : l.take (m + 1) = l.take m ++ [l[m]] := (List.take_append_getElem (by omega)).symm
    by_cases hk : Lib.keeps l.toArray m = true
    · rw [if_pos hk]
      refine ⟨List.pairwise_append.2 ⟨h1, List.pairwise_singleton _ _, fun a ha b hb => ?_⟩, fun x => ?_⟩
      · have hb' : b = l[m] := by simpa using hb
        subst hb'
        rcases Nat.eq_zero_or_pos m with rfl | hm0
        · simp [Lib.compactUpTo] at ha
        · have ha2 := (h2 a).1 ha
          obtain ⟨i, hi, rfl⟩ := List.mem_iff_getElem.1 ha2
          have hi' : i < m := by simp at hi; omega
          rw [List.getElem_take]
          have e1 : l[i] ≤ l[m - 1] := by
            rcases Nat.lt_or_ge i (m - 1) with h | h
            · exact List.pairwise_iff_getElem.1 hs i (m - 1) _ _ h
            · have : i = m - 1 := by omega
              subst this; exact Int.le_refl _
          have e2 : l[m - 1] ≤ l[m] := List.pairwise_iff_getElem.1 hs (m - 1) m _ _ (by omega)
          have e3 : l[m] ≠ l[m - 1] := by
            unfold Lib.keeps at hk
            rw [get_bang l m (by omega), get_bang l (m - 1) (by omega)] at hk
            have := of_decide_eq_true hk
            omega
          omega
      · rw [List.mem_append, h2, ht, List.mem_append]
    · rw [if_neg hk, List.append_nil]
      refine ⟨h1, fun x => ?_⟩
      rw [h2, ht, List.mem_append]
      refine ⟨.inl, fun h => ?_⟩
      rcases h with h | h
      · exact h
      · have hx : x = l[m] := by simpa using h
        unfold Lib.keeps at hk
        have hm0 : m ≠ 0 := fun e => hk (by simp [e])
        rw [get_bang l m (by omega), get_bang l (m - 1) (by omega)] at hk
        have e : l[m] = l[m - 1] := by
          by_cases e : l[m] = l[m - 1]
          · exact e
          · exact absurd (decide_eq_true (.inr e)) hk
        rw [hx, e, List.mem_iff_getElem]
        exact ⟨m - 1, by simp; omega, by rw [List.getElem_take]⟩
theorem sort_sorted (l : List Int) : (l.mergeSort fun x y => decide (x ≤ y)).Pairwise (fun x y => x ≤ y) := by
  have h := List.pairwise_mergeSort (le := fun (x y : Int) => decide (x ≤ y)) (fun a b c h1 h2 => by simp at *; omega) (fun a b => by simp; omega) l
  exact h.imp (fun h => by simpa using h)
theorem norm_up (l : List Int) : Up (normL l) := (comp_inv _ (sort_sorted l) _ (Nat.le_refl _)).1
theorem norm_mem (l : List Int) (x : Int) : x ∈ normL l ↔ x ∈ l := by
  have h := (comp_inv _ (sort_sorted l) _ (Nat.le_refl _)).2 x
  rw [List.take_length] at h
  exact h.trans List.mem_mergeSort
end Go.Proofs.YtgfjdkkfgclhjaaGreat.Ld
/- What lies beneath a node; on which variables a function hangs. -/
namespace Go.Proofs.YtgfjdkkfgclhjaaGreat.Bd

inductive Reach (nd : List Nd) : Nat → Nat → Prop
  | refl (f : Nat) : Reach nd f f
  | lo {f v lo hi y : Nat} (h : nd[f]? = some (v, lo, hi)) (h2 : 2 ≤ f) (r : Reach nd lo y) : Reach nd f y
  | hi {f v lo hi y : Nat} (h : nd[f]? = some (v, lo, hi)) (h2 : 2 ≤ f) (r : Reach nd hi y) : Reach nd f y
theorem WF.row {nd : List Nd} (hw : WF nd) {f : Nat} (hf : f < nd.length) (h2 : 2 ≤ f) : ∃ v lo hi, nd[f]? = some (v, lo, hi) ∧ lo < f ∧ hi < f ∧ lo ≠ hi ∧ v < 256 := by
  obtain ⟨t, F, d⟩ := hw.den f hf
  obtain ⟨lo, hi, _, _, _, _, hr, r1, r2, r3, _, _, r6, _⟩ := d.row h2
  exact ⟨t, lo, hi, hr, r1, r2, r3, r6⟩
/-- the visit, said by what it leaves -/
structure VisOK (nd : List Nd) (he : Int → Bool) (fr : List Nat) (f : Nat) (R : List Nat) : Prop where
  old : ∀ x ∈ fr, x ∈ R
  me : f < 2 ∨ f ∈ R ∨ he f = true
  new : ∀ x ∈ R, x ∈ fr ∨ (Reach nd f x ∧ he x = false ∧ 2 ≤ x)
  shut : ∀ x ∈ R, x ∉ fr → ∀ v lo hi, nd[x]? = some (v, lo, hi) → (lo < 2 ∨ lo ∈ R ∨ he lo = true) ∧ (hi < 2 ∨ hi ∈ R ∨ he hi = true)
theorem vis_ok {nd : List Nd} (hw : WF nd) {he : Int → Bool} : ∀ (n : Nat) (fr : List Nat) (f : Nat), f < n → f < nd.length → VisOK nd he fr f (vis nd he n fr f) := by
  intro n
  induction n with
  | zero => intro fr f h; omega
  | succ n ih =>
    intro fr f hn hf
    by_cases hc : f < 2 ∨ f ∈ fr ∨ he f = true
    · have e : vis nd he (n + 1) fr f = fr := by unfold vis; rw [if_pos hc]
      rw [e]
      exact ⟨fun x h => h, hc, fun x h => .inl h, fun x h h' => absurd h h'⟩
    · have h2 : 2 ≤ f := by
        rcases Nat.lt_or_ge f 2 with h | h
        · exact absurd (.inl h) hc
        · exact h
      obtain ⟨v, lo, hi, hr, r1, r2, r3, r4⟩ := hw.row hf h2
      have e : vis nd he (n + 1) fr f = vis nd he n (vis nd he n (fr ++ [f]) lo) hi := by
        conv => lhs; unfold vis
        rw [if_neg hc, hr]
      rw [e]
      have a := ih (fr ++ [f]) lo (by omega) (by omega)
      have b := ih (vis nd he n (fr ++ [f]) lo) hi (by omega) (by omega)
      have hfa : f ∈ vis nd he n (fr ++ [f]) lo := a.old f (by simp)
      have hef : he f = false := by
        cases h : he f
        · rfl
        · exact absurd (.inr (.inr h)) hc
      refine ⟨fun x h => b.old x (a.old x (by simp [h])), .inr (.inl (b.old f hfa)), fun x h => ?_, fun x h hx v' lo' hi' hr' => ?_⟩
      · rcases b.new x h with h | ⟨h, h3, h4⟩
        · rcases a.new x h with h | ⟨h, h3, h4⟩
          · rcases List.mem_append.1 h with h | h
            · exact .inl h
            · have : x = f := by simpa using h
              subst this
              exact .inr ⟨.refl _, hef, h2⟩
          · exact .inr ⟨.lo hr h2 h, h3, h4⟩
        · exact .inr ⟨.hi hr h2 h, h3, h4⟩
      · by_cases hxa : x ∈ vis nd he n (fr ++ [f]) lo
        · by_cases hxf : x = f
          · subst hxf
            rw [hr] at hr'
            cases hr'
            exact ⟨a.me.imp id (fun h => h.imp (b.old _) id), b.me⟩
          · obtain ⟨s1, s2⟩ := a.shut x hxa (fun h => by
              rcases List.mem_append.1 h with h | h
              · exact hx h
              · exact hxf (by simpa using h)) _ _ _ hr'
            exact ⟨s1.imp id (fun h => h.imp (b.old _) id), s2.imp id (fun h => h.imp (b.old _) id)⟩
        · exact b.shut x h hxa _ _ _ hr'
theorem shut_reach {nd : List Nd} {he : Int → Bool} {R : List Nat} (hhe : ∀ x : Nat, he x = true → ∀ v lo hi, nd[x]? = some (v, lo, hi) → (lo < 2 ∨ he lo = true) ∧ (hi < 2 ∨ he hi = true))
    (hs : ∀ x ∈ R, ∀ v lo hi, nd[x]? = some (v, lo, hi) → (lo < 2 ∨ lo ∈ R ∨ he lo = true) ∧ (hi < 2 ∨ hi ∈ R ∨ he hi = true)) {f y : Nat} (r : Reach nd f y) : (f < 2 ∨ f ∈ R ∨ he f = true) → (y < 2 ∨ y ∈ R ∨ he y = true) := by
  induction r with
  | refl => exact id
  | lo h h2 _ ih =>
    rintro (h' | h' | h')
    · omega
    · exact ih (hs _ h' _ _ _ h).1
    · exact ih ((hhe _ h' _ _ _ h).1.imp id .inr)
  | hi h h2 _ ih =>
    rintro (h' | h' | h')
    · omega
    · exact ih (hs _ h' _ _ _ h).2
    · exact ih ((hhe _ h' _ _ _ h).2.imp id .inr)
theorem beneath_iff {nd : List Nd} (hw : WF nd) {f y : Nat} (hf : f < nd.length) : y ∈ beneath nd f ↔ Reach nd f y ∧ 2 ≤ y := by
  have a := vis_ok hw (he := noH) (f + 1) [] f (by omega) hf
  constructor
  · intro h
    rcases a.new y h with h | ⟨h, _, h2⟩
    · cases h
    · exact ⟨h, h2⟩
  · rintro ⟨r, h2⟩
    rcases shut_reach (he := noH) (R := vis nd noH (f + 1) [] f) (fun x h => by cases h) (fun x h => a.shut x h (by simp)) r a.me with h | h | h
    · omega
    · exact h
    · cases h
/-- a function hangs on a variable -/
def Hangs (F : Env → Bool) (v : Nat) : Prop := ∃ ρ, F (upd ρ v false) ≠ F (upd ρ v true)
theorem Den.hangs_top {S : Nat → Bool} {nd : List Nd} (ho : Once nd) {f t : Nat} {F : Env → Bool} (d : Den S nd f t F) (h2 : 2 ≤ f) : Hangs F t := by
  obtain ⟨lo, hi, tl, th, Fl, Fh, hr, r1, r2, r3, r4, r5, r6, r7, dl, dh, rfl⟩ := d.row h2
  have hne : Fl ≠ Fh := fun e => by subst e; exact r3 (dl.eq ho dh)
  obtain ⟨ρ, hρ⟩ : ∃ ρ, Fl ρ ≠ Fh ρ := by
    apply Classical.byContradiction
    intro h
    exact hne (funext fun ρ => Classical.byContradiction fun h' => h ⟨ρ, h'⟩)
  refine ⟨ρ, ?_⟩
  simp only [upd_same, Bool.false_eq_true, if_false, if_true]
  rw [dl.free r4, dh.free r5]
  exact hρ
theorem Den.hangs {S : Nat → Bool} {nd : List Nd} (ho : Once nd) {f y : Nat} (r : Reach nd f y) : ∀ {t : Nat} {F : Env → Bool}, Den S nd f t F → 2 ≤ y → ∃ t', nd[y]?.map Prod.fst = some t' ∧ t ≤ t' ∧ Hangs F t' := by
  induction r with
  | refl f =>
    intro t F d h2
    obtain ⟨lo, hi, _, _, _, _, hr, _⟩ := d.row h2
    exact ⟨t, by rw [hr]; rfl, Nat.le_refl _, d.hangs_top ho h2⟩
  | lo h h2 _ ih =>
    intro t F d hy
    obtain ⟨lo, hi, tl, th, Fl, Fh, hr, r1, r2, r3, r4, r5, r6, r7, dl, dh, rfl⟩ := d.row h2
    rw [hr] at h
    simp only [Option.some.injEq, Prod.mk.injEq] at h
    obtain ⟨rfl, rfl, rfl⟩ := h
    obtain ⟨t', e, ht, ρ, hρ⟩ := ih dl hy
    refine ⟨t', e, by omega, upd ρ t false, ?_⟩
    simp only [upd_other _ _ (show t ≠ t' by omega), upd_same, Bool.false_eq_true, if_false]
    rw [upd_swap _ _ _ (show t ≠ t' by omega), upd_swap _ _ _ (show t ≠ t' by omega), dl.free r4, dl.free r4]
    exact hρ
  | hi h h2 _ ih =>
    intro t F d hy
    obtain ⟨lo, hi, tl, th, Fl, Fh, hr, r1, r2, r3, r4, r5, r6, r7, dl, dh, rfl⟩ := d.row h2
    rw [hr] at h
    simp only [Option.some.injEq, Prod.mk.injEq] at h
    obtain ⟨rfl, rfl, rfl⟩ := h
    obtain ⟨t', e, ht, ρ, hρ⟩ := ih dh hy
    refine ⟨t', e, by omega, upd ρ t true, ?_⟩
    simp only [upd_other _ _ (show t ≠ t' by omega), upd_same, if_true]
    rw [upd_swap _ _ _ (show t ≠ t' by omega), upd_swap _ _ _ (show t ≠ t' by omega), dh.free r5, dh.free r5]
    exact hρ
theorem Den.hung {S : Nat → Bool} {nd : List Nd} {f t : Nat} {F : Env → Bool} (d : Den S nd f t F) : ∀ v, Hangs F v → ∃ y lo hi, Reach nd f y ∧ 2 ≤ y ∧ nd[y]? = some (v, lo, hi) := by
  induction d with
  | zero => rintro v ⟨ρ, h⟩; exact absurd rfl h
  | one => rintro v ⟨ρ, h⟩; exact absurd rfl h
  | @node i w lo hi tl th Fl Fh h h2 hl hh hne h1 h3 hv hS dl dh il ih =>
    rintro v ⟨ρ, hρ⟩
    by_cases e : v = w
    · subst e
      exact ⟨i, lo, hi, .refl _, h2, h⟩
    · simp only [upd_other _ _ (Ne.symm e)] at hρ
      cases hw : ρ w
      · simp only [hw, Bool.false_eq_true, if_false] at hρ
        obtain ⟨y, a, b, r, h5, h6⟩ := il v ⟨ρ, hρ⟩
        exact ⟨y, a, b, .lo h h2 r, h5, h6⟩
      · simp only [hw, if_true] at hρ
        obtain ⟨y, a, b, r, h5, h6⟩ := ih v ⟨ρ, hρ⟩
        exact ⟨y, a, b, .hi h h2 r, h5, h6⟩
theorem supL_mem {S : Nat → Bool} {nd : List Nd} (hw : WF nd) {f t : Nat} {F : Env → Bool} (d : Den S nd f t F) (x : Int) : x ∈ supL nd f ↔ ∃ v : Nat, x = v ∧ Hangs F v := by
  have hf := d.lt hw
  rw [show supL nd f = Ld.normL ((beneath nd f).map fun x => (topOf nd x : Int)) from rfl, Ld.norm_mem, List.mem_map]
  constructor
  · rintro ⟨y, hy, rfl⟩
    obtain ⟨r, h2⟩ := (beneath_iff hw hf).1 hy
    obtain ⟨t', e, _, hh⟩ := d.hangs hw.once r h2
    refine ⟨t', ?_, hh⟩
    unfold topOf
    cases hx : nd[y]? with
    | none => rw [hx] at e; cases e
    | some z => rw [hx] at e; simp at e; simp [e]
  · rintro ⟨v, rfl, hh⟩
    obtain ⟨y, lo, hi, r, h2, hr⟩ := d.hung v hh
    refine ⟨y, (beneath_iff hw hf).2 ⟨r, h2⟩, ?_⟩
    unfold topOf
    rw [hr]
theorem supL_up (nd : List Nd) (f : Nat) : Ld.Up (supL nd f) := Ld.norm_up _
/-- on what a function hangs, its diagram has; on nothing else -/
theorem Den.hangs_in {S : Nat → Bool} {nd : List Nd} {f t : Nat} {F : Env → Bool} (d : Den S nd f t F) {v : Nat} (h : Hangs F v) : t ≤ v ∧ v < 256 ∧ S v = true := by
  obtain ⟨ρ, hρ⟩ := h
  have h1 : t ≤ v := by
    rcases Nat.lt_or_ge v t with h | h
    · rw [d.free h, d.free h] at hρ; exact absurd rfl hρ
    · exact h
  have h2 : ∃ x, x = v ∧ x < 256 ∧ S x = true := by
    apply Classical.byContradiction
    intro hno
    apply hρ
    apply d.indepS
    intro x _ hx hS
    by_cases e : x = v
    · exact absurd ⟨x, e, hx, hS⟩ hno
    · rw [upd_other _ _ e, upd_other _ _ e]
  obtain ⟨x, rfl, h3, h4⟩ := h2
  exact ⟨h1, h3, h4⟩
/-- the same diagram, over just the variables on which it hangs -/
theorem Den.narrow {S S' : Nat → Bool} {nd : List Nd} (ho : Once nd) {f t : Nat} {F : Env → Bool} (d : Den S nd f t F) : (∀ v, Hangs F v → S' v = true) → Den S' nd f t F := by
  induction d with
  | zero => intro _; exact .zero
  | one => intro _; exact .one
  | @node i w lo hi tl th Fl Fh h h2 hl hh hne h1 h3 hv hS dl dh il ih =>
    intro hs
    have dn : Den S nd i w (fun ρ => if ρ w then Fh ρ else Fl ρ) := .node h h2 hl hh hne h1 h3 hv hS dl dh
    refine .node h h2 hl hh hne h1 h3 hv (hs w (dn.hangs_top ho h2)) (il fun v hv' => hs v ?_) (ih fun v hv' => hs v ?_)
    · have := (dl.hangs_in hv').1
      obtain ⟨ρ, hρ⟩ := hv'
      refine ⟨upd ρ w false, ?_⟩
      simp only [upd_other _ _ (show w ≠ v by omega), upd_same, Bool.false_eq_true, if_false]
      rw [upd_swap _ _ _ (show w ≠ v by omega), upd_swap _ _ _ (show w ≠ v by omega), dl.free h1, dl.free h1]
      exact hρ
    · have := (dh.hangs_in hv').1
      obtain ⟨ρ, hρ⟩ := hv'
      refine ⟨upd ρ w true, ?_⟩
      simp only [upd_other _ _ (show w ≠ v by omega), upd_same, if_true]
      rw [upd_swap _ _ _ (show w ≠ v by omega), upd_swap _ _ _ (show w ≠ v by omega), dh.free h3, dh.free h3]
      exact hρ
end Go.Proofs.YtgfjdkkfgclhjaaGreat.Bd
