/- Not, And, Or, Xor; what each call answers, in one form. -/
import Derived.Test.YtgfjdkkfgclhjaaBW
import Derived.Test.YtgfjdkkfgclhjaaDQ
namespace Go.Proofs.Ytgfjdkkfgclhjaa.Bd
open Go.RowKit Go.Proofs.Ytgfjdkkfgclhjaa Go.Proofs.Ytgfjdkkfgclhjaa.Lx Go.Maps

/-- node r is the function G, over variables of S -/
def OkSem (S : Nat → Bool) (G : Env → Bool) (nd' : List Nd) (r : Nat) : Prop := ∃ t, Den S nd' r t G
theorem ApiOut.mono {k : Blk} {s : St} {w w' : World} {R R' : Nat} {ok ok' : List Nd → Nat → Prop} {e : Ending} (h : ApiOut k s w R ok e w') (hR : R ≤ R') (ho : ∀ nd' r, (∃ ex, nd' = s.nd ++ ex) → ok nd' r → ok' nd' r) : ApiOut k s w R' ok' e w' := by
  obtain ⟨k', s1, r, U, hm, o, T, hw, hr, h⟩ := h
  exact ⟨k', s1, r, U, by omega, ho _ _ U.nd o, T, hw, hr, h⟩
theorem okSem_of {S : Nat → Bool} {G : Env → Bool} {P : Nat → Prop} {nd' : List Nd} {r : Nat} (h : ∃ t', P t' ∧ Den S nd' r t' G) : OkSem S G nd' r := by
  obtain ⟨t', _, d⟩ := h
  exact ⟨t', d⟩
theorem min_le (S : Nat → Bool) (a : Nat) : nS S a ≤ nS S 0 := nS_le S (Nat.zero_le _)
/-- Ite, said of functions -/
theorem Ite_sem (S : Nat → Bool) (k : Blk) (s : St) (f g h tf tg th n : Nat) (F G H : Env → Bool) (w : World) (hA : Ar w k s) (ad : Adm s) (g1 : s.gi f = true) (g2 : s.gi g = true) (g3 : s.gi h = true) (d1 : Den S s.nd f tf F) (d2 : Den S s.nd g tg G) (d3 : Den S s.nd h th H) (hn : nS S 0 ≤ n) (hm : s.m + 2 ^ (n + 1) ≤ 1000000000) :
    Calls Try.prog 19 #[.pointer (some ⟨k.p, 0, none⟩), .int .i64 f, .int .i64 g, .int .i64 h] w (ApiOut k s w (2 ^ (n + 1)) (OkSem S (fun ρ => if F ρ then G ρ else H ρ))) := by
  have hl := min_le S (min tf (min tg th))
  have hp : 2 ^ (nS S (min tf (min tg th)) + 1) ≤ 2 ^ (n + 1) := Nat.pow_le_pow_right (by omega) (by omega)
  refine (Ite_any S k s f g h tf tg th F G H w hA ad g1 g2 g3 d1 d2 d3 (by omega)).mono ?_
  intro e w' ho
  refine ho.mono hp (fun nd' r hex o => ?_)
  obtain ⟨t, _, d⟩ := o S tf tg th F G H d1 d2 d3
  exact ⟨t, d⟩
theorem gi01 {s : St} (h : s.gi 0 = true ∧ s.gi 1 = true) : s.gi ((0 : Nat) : Int) = true ∧ s.gi ((1 : Nat) : Int) = true := h
set_option maxRecDepth 100000 in
theorem Not_sem (S : Nat → Bool) (k : Blk) (s : St) (f tf n : Nat) (F : Env → Bool) (w : World) (hA : Ar w k s) (ad : Adm s) (g0 : s.gi 0 = true ∧ s.gi 1 = true) (g1 : s.gi f = true) (d1 : Den S s.nd f tf F) (hn : nS S 0 ≤ n) (hm : s.m + 2 ^ (n + 1) ≤ 1000000000) :
    Calls Try.prog 10 #[.pointer (some ⟨k.p, 0, none⟩), .int .i64 f] w (ApiOut k s w (2 ^ (n + 1)) (OkSem S (fun ρ => !F ρ))) := by
  have e : (fun ρ => !F ρ) = fun ρ => if F ρ then false else true := by funext ρ; cases F ρ <;> rfl
  rw [e]
  have HC := hide (Ite_sem S k s f 0 1 tf 256 256 n F _ _ w hA ad g1 g0.1 g0.2 d1 .zero .one hn hm)
  clear hA ad g0 g1 d1 hn hm e
  go_enter Try.func10, Try.ntmps10
  go_wp2_with fail
  refine HC.out.mono ?_
  intro e w1 hh
  obtain ⟨x, y, he, HX⟩ := api_two hh (Below.refl _ w)
  subst he
  have HX := hide HX
  clear hh
  go_wp2_with fail
  go_ret2
  exact HX.out
set_option maxRecDepth 100000 in
theorem And_sem (S : Nat → Bool) (k : Blk) (s : St) (f g tf tg n : Nat) (F G : Env → Bool) (w : World) (hA : Ar w k s) (ad : Adm s) (g0 : s.gi 0 = true ∧ s.gi 1 = true) (g1 : s.gi f = true) (g2 : s.gi g = true) (d1 : Den S s.nd f tf F) (d2 : Den S s.nd g tg G) (hn : nS S 0 ≤ n) (hm : s.m + 2 ^ (n + 1) ≤ 1000000000) :
    Calls Try.prog 24 #[.pointer (some ⟨k.p, 0, none⟩), .int .i64 f, .int .i64 g] w (ApiOut k s w (2 ^ (n + 1)) (OkSem S (fun ρ => F ρ && G ρ))) := by
  have e : (fun ρ => F ρ && G ρ) = fun ρ => if F ρ then G ρ else false := by funext ρ; cases F ρ <;> simp
  rw [e]
  have HC := hide (Ite_sem S k s f g 0 tf tg 256 n F G _ w hA ad g1 g2 g0.1 d1 d2 .zero hn hm)
  clear hA ad g0 g1 g2 d1 d2 hn hm e
  go_enter Try.func24, Try.ntmps24
  go_wp2_with fail
  refine HC.out.mono ?_
  intro e w1 hh
  obtain ⟨x, y, he, HX⟩ := api_two hh (Below.refl _ w)
  subst he
  have HX := hide HX
  clear hh
  go_wp2_with fail
  go_ret2
  exact HX.out
set_option maxRecDepth 100000 in
theorem Or_sem (S : Nat → Bool) (k : Blk) (s : St) (f g tf tg n : Nat) (F G : Env → Bool) (w : World) (hA : Ar w k s) (ad : Adm s) (g0 : s.gi 0 = true ∧ s.gi 1 = true) (g1 : s.gi f = true) (g2 : s.gi g = true) (d1 : Den S s.nd f tf F) (d2 : Den S s.nd g tg G) (hn : nS S 0 ≤ n) (hm : s.m + 2 ^ (n + 1) ≤ 1000000000) :
    Calls Try.prog 22 #[.pointer (some ⟨k.p, 0, none⟩), .int .i64 f, .int .i64 g] w (ApiOut k s w (2 ^ (n + 1)) (OkSem S (fun ρ => F ρ || G ρ))) := by
  have e : (fun ρ => F ρ || G ρ) = fun ρ => if F ρ then true else G ρ := by funext ρ; cases F ρ <;> simp
  rw [e]
  have HC := hide (Ite_sem S k s f 1 g tf 256 tg n F _ G w hA ad g1 g0.2 g2 d1 .one d2 hn hm)
  clear hA ad g0 g1 g2 d1 d2 hn hm e
  go_enter Try.func22, Try.ntmps22
  go_wp2_with fail
  refine HC.out.mono ?_
  intro e w1 hh
  obtain ⟨x, y, he, HX⟩ := api_two hh (Below.refl _ w)
  subst he
  have HX := hide HX
  clear hh
  go_wp2_with fail
  go_ret2
  exact HX.out
theorem cells2 (w : World) (a b : Int) : ∀ (j : Nat) (x : Int), [a, b][j]? = some x → (w.alloc (.cells #[.int .i64 a, .int .i64 b] 3)).cell? ⟨w.heap.size, j, none⟩ = some (.int .i64 x) := by
  intro j x hx
  refine cell_heap (heap_new _ _) ?_
  match j, hx with
  | 0, hx => simpa using hx
  | 1, hx => simpa using hx
  | j + 2, hx => simp at hx
set_option maxHeartbeats 1000000 in
set_option maxRecDepth 100000 in
theorem Xor_sem (S : Nat → Bool) (k : Blk) (s : St) (f g tf tg n : Nat) (F G : Env → Bool) (w : World) (hA : Ar w k s) (ad : Adm s) (g1 : s.gi f = true) (g2 : s.gi g = true) (d1 : Den S s.nd f tf F) (d2 : Den S s.nd g tg G) (hn : nS S 0 ≤ n) (hm : s.m + 2 ^ (n + 2) ≤ 1000000000) :
    Calls Try.prog 42 #[.pointer (some ⟨k.p, 0, none⟩), .int .i64 f, .int .i64 g] w (ApiOut k s w (2 ^ (n + 2)) (OkSem S (fun ρ => if F ρ then !G ρ else G ρ))) := by
  have hW := hA.wf
  have hnm := hA.nm
  have l1 := d1.lt hW
  have l2 := d2.lt hW
  have hp2 : 2 ^ (n + 2) = 2 * 2 ^ (n + 1) := by rw [Nat.pow_succ _ (n + 1)]; omega
  have hp1 : 2 ≤ 2 ^ (n + 1) := by have := Nat.one_le_two_pow (n := n); rw [Nat.pow_succ]; omega
  have hq : ∀ a, 2 ^ (nS S a + 1) ≤ 2 ^ (n + 1) := fun a => Nat.pow_le_pow_right (by omega) (by have := min_le S a; omega)
  have hbl := bel_one w (.cells #[.int .i64 f, .int .i64 g] 3)
  have HC := hide (check_any k s [(f : Int), g] w.heap.size _ (hA.below hbl) (cells2 w f g) (by simp; omega) (by simp))
  rw [show [(f : Int), g].length = 2 from rfl, gvn_all (s := s) (l := [(f : Int), g]) (by simp [g1, g2])] at HC
  have q1 := hq (min tg (min 256 256))
  have HI : Hid (Calls Try.prog 40 #[.pointer (some ⟨k.p, 0, none⟩), .int .i32 g, .int .i32 0, .int .i32 1] (w.alloc (.cells #[.int .i64 f, .int .i64 g] 3)) (NodeOut k s (w.alloc (.cells #[.int .i64 f, .int .i64 g] 3)) (2 ^ (nS S (min tg (min 256 256)) + 1)) (fun nd' r => OkIte s.nd nd' g 0 1 r))) := hide (ite_any S k s g 0 1 tg 256 256 G _ _ _ (hA.below hbl) d2 .zero .one (by omega))
  have HI2 : Hid (∀ (k1 : Blk) (s1 : St) (w1 : World) (x : Nat), Ar w1 k1 s1 → k1.p = k.p → Up s s1 → s1.m + 2 ≤ s.m + 2 ^ (n + 1) → OkIte s.nd s1.nd g 0 1 x → Calls Try.prog 40 #[.pointer (some ⟨k.p, 0, none⟩), .int .i32 f, .int .i32 x, .int .i32 g] w1 fun e w' => ∃ k' s' r, e = .returned (.int .i32 (r : Nat)) ∧ Ar w' k' s' ∧ Turn k1 k' w1 w' ∧ Up s s' ∧ s'.m + 2 ≤ s.m + 2 ^ (n + 2) ∧ ∃ t', anyB 0 t' ∧ Den S s'.nd r t' (fun ρ => if F ρ then !G ρ else G ρ)) := by
    intro k1 s1 w1 x hA1 hp U hm1 o
    obtain ⟨tx, _, dx⟩ := o S _ _ _ _ _ _ d2 .zero .one
    rw [← hp]
    have q2 := hq (min tf (min tx tg))
    refine (ite_any S k1 s1 f x g tf tx tg F _ G w1 hA1 (d1.up U) dx (d2.up U) (by omega)).mono ?_
    rintro e w' ⟨k', s', r, he, hA', hT', hU', hm', ho⟩
    obtain ⟨t', _, d⟩ := ho S _ _ _ _ _ _ (d1.up U) dx (d2.up U)
    refine ⟨k', s', r, he, hA', hT', U.trans hU', by omega, t', trivial, ?_⟩
    have e : (fun ρ => if F ρ then !G ρ else G ρ) = fun ρ => if F ρ then (if G ρ then false else true) else G ρ := by funext ρ; cases F ρ <;> cases G ρ <;> rfl
    rw [e]; exact d
  have HB := hide hbl
  have HAD := hide ad
  have HQ1 := hide q1
  have hw1 : IntKind.i32.wrap (f : Int) = f := wrap3 (by omega) (by omega)
  have hw2 : IntKind.i32.wrap (g : Int) = g := wrap3 (by omega) (by omega)
  generalize 2 ^ (nS S (min tg (min 256 256)) + 1) = R1 at *
  generalize hR : 2 ^ (n + 2) = R at *
  have HR := hide hR
  have HP2 := hide hp2
  clear hA ad g1 g2 d1 d2 hn hbl hq hR hp2
  go_enter Try.func42, Try.ntmps42
  go_wp2_with fail
  refine HC.out.mono ?_
  rintro e w1 ⟨rfl, rfl⟩
  go_wp2_with fail
  refine HI.out.mono ?_
  intro e w2 hh
  unfold NodeOut at hh
  obtain ⟨k1, s1, x, rfl, hA1, T1, U1, m1, o1⟩ := hh
  have hm12 : s1.m + 2 ≤ s.m + 2 ^ (n + 1) := by have := HQ1.out; omega
  have HC2 := hide (HI2.out k1 s1 w2 x hA1 T1.p U1 hm12 o1)
  have HT1 := hide T1
  clear hA1 T1 U1 m1 o1 HC HI HI2
  go_wp2_with fail
  refine HC2.out.mono ?_
  rintro e w3 ⟨k2, s2, r, rfl, hA2, T2, U2, m2, o2⟩
  have HG := hide (give_call hA2 o2 m2 hm U2 HAD.out (T2.p.trans HT1.out.p))
  have HT := hide ((Turn.below (k := k) HB.out).trans (HT1.out.trans T2))
  have HU := hide U2
  have HO := hide o2
  have HW := hide hA2.wf
  have HM := hide m2
  clear hA2 T2 U2 m2 o2 HC2
  go_wp2_with fail
  refine HG.out.mono ?_
  intro e w4 hg
  have HX := hide ((api_call HU.out HM.out HO.out HT.out HW.out hg).mono (Nat.le_refl _) (fun _ _ _ => okSem_of))
  obtain ⟨x', y', he, _⟩ := give_two hg
  subst he
  clear hg
  go_wp2_with fail
  go_ret2
  exact HX.out
end Go.Proofs.Ytgfjdkkfgclhjaa.Bd
