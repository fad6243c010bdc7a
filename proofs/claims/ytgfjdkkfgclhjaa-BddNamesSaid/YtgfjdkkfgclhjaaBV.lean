/- Rename: what it asks, and the function that makes. -/
import Derived.Test.YtgfjdkkfgclhjaaBU
namespace Go.Proofs.Ytgfjdkkfgclhjaa.Bd
open Go.RowKit Go.Proofs.Ytgfjdkkfgclhjaa Go.Proofs.Ytgfjdkkfgclhjaa.Lx Go.Maps

/-- the variables of S from v on -/
def setL (S : Nat → Bool) (v : Nat) : List Nat := ((List.range (256 - v)).filter fun x => S (v + x)).map fun x => v + x
theorem setL_len (S : Nat → Bool) (v : Nat) : (setL S v).length = nS S v := by unfold setL nS; simp
theorem setL_mem {S : Nat → Bool} {v x : Nat} : x ∈ setL S v ↔ v ≤ x ∧ x < 256 ∧ S x = true := by
  unfold setL
  simp only [List.mem_map, List.mem_filter, List.mem_range]
  constructor
  · rintro ⟨y, ⟨h1, h2⟩, rfl⟩
    exact ⟨by omega, by omega, h2⟩
  · rintro ⟨h1, h2, h3⟩
    exact ⟨x - v, ⟨by omega, by rw [show v + (x - v) = x by omega]; exact h3⟩, by omega⟩
theorem setL_nodup (S : Nat → Bool) (v : Nat) : (setL S v).Nodup := by
  unfold setL List.Nodup
  rw [List.pairwise_map]
  exact (List.nodup_range.sublist List.filter_sublist).imp (fun h e => h (by omega))
/-- one set has no more than another -/
theorem nS_sub {S S' : Nat → Bool} {u v : Nat} (g : Nat → Nat) (h : ∀ y, u ≤ y → y < 256 → S' y = true → ∃ x, v ≤ x ∧ x < 256 ∧ S x = true ∧ g x = y) : nS S' u ≤ nS S v := by
  rw [← setL_len, ← setL_len]
  have := List.Nodup.length_le_of_subset (l₂ := (setL S v).map g) (setL_nodup S' u) (fun y hy => by
    obtain ⟨h1, h2, h3⟩ := setL_mem.1 hy
    obtain ⟨x, a, b, c, e⟩ := h y h1 h2 h3
    exact List.mem_map.2 ⟨x, setL_mem.2 ⟨a, b, c⟩, e⟩)
  simpa using this
/-- what becomes of the variables of S from t on -/
def imgS (S : Nat → Bool) (rn : Nat → Nat) (t y : Nat) : Bool := (List.range 256).any fun x => decide (t ≤ x) && S x && decide (rn x = y)
theorem imgS_iff {S : Nat → Bool} {rn : Nat → Nat} {t y : Nat} : imgS S rn t y = true ↔ ∃ x, t ≤ x ∧ x < 256 ∧ S x = true ∧ rn x = y := by
  unfold imgS
  simp only [List.any_eq_true, List.mem_range, Bool.and_eq_true, decide_eq_true_eq]
  constructor
  · rintro ⟨x, h1, ⟨h2, h3⟩, h4⟩
    exact ⟨x, h2, h1, h3, h4⟩
  · rintro ⟨x, h1, h2, h3, h4⟩
    exact ⟨x, h2, ⟨h1, h3⟩, h4⟩
theorem imgS_le (S : Nat → Bool) (rn : Nat → Nat) (t u : Nat) : nS (imgS S rn t) u ≤ nS S t := nS_sub rn (fun _ _ _ h => imgS_iff.1 h)
theorem imgS_mono {S : Nat → Bool} {rn : Nat → Nat} {t t' : Nat} (h : t ≤ t') (y : Nat) (hy : imgS S rn t' y = true) : imgS S rn t y = true := by
  obtain ⟨x, h1, h2⟩ := imgS_iff.1 hy
  exact imgS_iff.2 ⟨x, by omega, h2⟩
def intoF (ps : List (Nat × Nat)) : Int → Option Int := ps.foldl (fun g p => fun x => if x = (p.1 : Int) then some (p.2 : Int) else g x) (fun _ => none)
theorem intoF_snoc (ps : List (Nat × Nat)) (p : Nat × Nat) : intoF (ps ++ [p]) = fun x => if x = (p.1 : Int) then some (p.2 : Int) else intoF ps x := by
  unfold intoF
  rw [List.foldl_append]
  rfl
theorem intoF_none {ps : List (Nat × Nat)} {a : Nat} (h : ∀ p ∈ ps, p.1 ≠ a) : intoF ps a = none := by
  rcases List.eq_nil_or_concat ps with rfl | ⟨qs, q, rfl⟩
  · rfl
  · rw [List.concat_eq_append] at h ⊢
    rw [intoF_snoc]
    simp only
    rw [if_neg (fun e => h q (by simp) (by omega))]
    exact intoF_none (fun p hp => h p (by simp [hp]))
termination_by ps.length
decreasing_by all_goals simp_wf; (try simp_all)
theorem intoF_some {ps : List (Nat × Nat)} {x c : Int} (h : intoF ps x = some c) : ∃ p ∈ ps, x = (p.1 : Int) ∧ c = (p.2 : Int) := by
  rcases List.eq_nil_or_concat ps with rfl | ⟨qs, q, rfl⟩
  · cases h
  · rw [List.concat_eq_append] at h ⊢
    rw [intoF_snoc] at h
    simp only at h
    split at h
    · rename_i e
      cases h
      exact ⟨q, by simp, e, rfl⟩
    · obtain ⟨p, hp, e⟩ := intoF_some h
      exact ⟨p, by simp [hp], e⟩
termination_by ps.length
decreasing_by all_goals simp_wf; (try simp_all)
def rnOf (ps : List (Nat × Nat)) (v : Nat) : Nat := match intoF ps v with | some c => c.toNat | none => v
def renT (rn : Nat → Nat) (F : Env → Bool) : Env → Bool := fun ρ => F (fun x => ρ (rn x))
def anyB (_ _ : Nat) : Prop := True
theorem call_rename (xs : Array Value) (w : World) : (callFunc 39 xs).run Try.prog w = .ok (.enter 39 xs) w :=
  call_enter Try.func39 (by kernel_rfl) (by kernel_rfl) xs w
/-- the two calls: a variable, and what stands on it -/
theorem rename_ite {S : Nat → Bool} {rn : Nat → Nat} {k k1 : Blk} {s s1 : St} {v u tl th r1 r2 x t1 t2 R : Nat} {Gl Gh : Env → Bool} {w1 : World} (hx : rn v = u) (hR : 2 ^ (nS S v + 2) = R) (hA1 : Ar w1 k1 s1) (hv : v < 256) (hrv : u < 256) (hS : S v = true) (h1 : v < tl) (h2 : v < th) (d1 : Den (imgS S rn tl) s.nd r1 t1 Gl) (d2 : Den (imgS S rn th) s.nd r2 t2 Gh) (U : Up s s1) (om : OkMk s.nd s1.nd u 0 1 x) (hm1 : s1.m ≤ s.m + 1) (hm : s.m + R ≤ 1000000000) (hp : k1.p = k.p) :
    Calls Try.prog 40 #[.pointer (some ⟨k.p, 0, none⟩), .int .i32 x, .int .i32 r2, .int .i32 r1] w1 fun e w' => ∃ k' s' r, e = .returned (.int .i32 (r : Nat)) ∧ Ar w' k' s' ∧ Turn k1 k' w1 w' ∧ Up s1 s' ∧ s'.m + 2 ≤ s.m + R ∧ ∃ t', anyB v t' ∧ Den (imgS S rn v) s'.nd r t' (fun ρ => if ρ u then Gh ρ else Gl ρ) := by
  have hSv : imgS S rn v u = true := imgS_iff.2 ⟨v, Nat.le_refl _, hv, hS, hx⟩
  obtain ⟨tx, _, dx⟩ := om (imgS S rn v) _ _ _ _ hSv .zero .one
  have e1 := (d1.mono (imgS_mono (Nat.le_of_lt h1))).up U
  have e2 := (d2.mono (imgS_mono (Nat.le_of_lt h2))).up U
  have hl := imgS_le S rn v (min tx (min t2 t1))
  have hpw : 2 ^ (nS (imgS S rn v) (min tx (min t2 t1)) + 1) ≤ 2 ^ (nS S v + 1) := Nat.pow_le_pow_right (by omega) (by omega)
  have hp2 : 2 ^ (nS S v + 2) = 2 * 2 ^ (nS S v + 1) := by rw [Nat.pow_succ _ (nS S v + 1)]; omega
  have hp3 : 2 ≤ 2 ^ (nS S v + 1) := by have := Nat.one_le_two_pow (n := nS S v); rw [Nat.pow_succ]; omega
  rw [← hp]
  refine (ite_any (imgS S rn v) k1 s1 x r2 r1 tx t2 t1 _ _ _ w1 hA1 dx e2 e1 (by omega)).mono ?_
  rintro e w' ⟨k', s', r, he, hA', hT', hU', hm', ho⟩
  obtain ⟨t', _, d⟩ := ho (imgS S rn v) _ _ _ _ _ _ dx e2 e1
  refine ⟨k', s', r, he, hA', hT', hU', by omega, t', trivial, ?_⟩
  have e : (fun ρ : Env => if ρ u then Gh ρ else Gl ρ) = fun ρ => if (if ρ u then true else false) then Gh ρ else Gl ρ := by funext ρ; cases ρ u <;> simp
  rw [e]; exact d
set_option maxHeartbeats 2000000 in
set_option maxRecDepth 100000 in
theorem rename_made_no (S : Nat → Bool) (rn : Nat → Nat) (k : Blk) (s : St) (w : World) (v r1 r2 t1 t2 tl th R b1 b2 im : Nat) (Gl Gh : Env → Bool) (hx : rn v = v) (hR : 2 ^ (nS S v + 2) = R) (hA : Ar w k s) (hv : v < 256) (hrv : v < 256) (hS : S v = true) (h1 : v < tl) (h2 : v < th) (d1 : Den (imgS S rn tl) s.nd r1 t1 Gl) (d2 : Den (imgS S rn th) s.nd r2 t2 Gh) (hm : s.m + R ≤ 1000000000) (hp : 4 ≤ R)
    (e1 : w.cell? ⟨b1, 0, none⟩ = some (.map (some im))) (e2 : w.cell? ⟨b2, 0, none⟩ = some (.pointer (some ⟨k.p, 0, none⟩))) (hnf : ¬ fp k b2) (lk : (Instr.lookup 79 (.map (some im)) (.int .i32 v) true).run Try.prog w = .ok (.tuple #[.int .i32 0, .bool false]) w) :
    Calls Try.prog 39 #[.int .i32 v, .int .i32 r1, .int .i32 r2, .pointer (some ⟨b1, 0, none⟩), .pointer (some ⟨b2, 0, none⟩)] w (NodeOut k s w R (fun nd' r => ∃ t', anyB v t' ∧ Den (imgS S rn v) nd' r t' (fun ρ => if ρ v then Gh ρ else Gl ρ))) := by
  have HX := hide hx
  have HR := hide hR
  have HM : Hid (∀ w', Below w.heap.size w w' → Calls Try.prog 41 #[.pointer (some ⟨k.p, 0, none⟩), .int .i32 v, .int .i32 0, .int .i32 1] w' fun e w'' => ∃ k' s' r, e = .returned (.int .i32 (r : Nat)) ∧ Ar w'' k' s' ∧ Turn k k' w' w'' ∧ Up s s' ∧ s'.m ≤ s.m + 1 ∧ OkMk s.nd s'.nd v 0 1 r) := hide (fun w' (hb : Below w.heap.size w w') => mk_any k s v 0 1 w' (hA.below hb) (by omega) (fun _ => true) 256 256 _ _ .zero .one (by omega) (by omega) (by omega) rfl)
  have HD := hide (And.intro d1 d2)
  have hw0 := (Below.refl w.heap.size w).drew
  have l2 : b2 < w.heap.size := lt_of_cell e2
  clear hA d1 d2 hR hx
  go_enter Try.func39, Try.ntmps39
  go_wp2_with fail
  go_region_held3 (fun w' => w'.cell? ⟨b2, 0, none⟩ = some (.pointer (some ⟨k.p, 0, none⟩)))
    (first | exact e2 | exact k3 | exact k4)
    (first
      | (go_at_call 41; (with_reducible refine (HM.out _ hw0).mono ?_); rintro e w1 ⟨k1, s1, x, he, hA1, T1, U1, m1, o1⟩; subst he; have k3 := T1.cell e2 hnf; have HA1 := hide hA1; have HT1 := hide T1; have HU1 := hide U1; have HM1 := hide m1; have HO1 := hide o1; clear hA1 T1 U1 m1 o1)
      | (go_at_call 40; (with_reducible refine (rename_ite HX.out HR.out HA1.out hv hrv hS h1 h2 HD.out.1 HD.out.2 HU1.out HO1.out HM1.out hm HT1.out.p).mono ?_); rintro e w2 ⟨k2, s2, r, he, hA2, T2, U2, m2, o2⟩; subst he; have k4 := T2.cell k3 (HT1.out.fpn l2 hnf); have HZ := hide (show NodeOut k s w R (fun nd' r => ∃ t', anyB v t' ∧ Den (imgS S rn v) nd' r t' (fun ρ => if ρ v then Gh ρ else Gl ρ)) (.returned (.int .i32 (r : Nat))) w2 from ⟨k2, s2, r, rfl, hA2, (Turn.below (k := k) hw0).trans (HT1.out.trans T2), HU1.out.trans U2, m2, o2⟩); clear hA2 T2 U2 m2 o2))
  all_goals (
    go_wp2_with fail
    go_ret
    exact HZ.out)
set_option maxHeartbeats 2000000 in
set_option maxRecDepth 100000 in
theorem rename_made_some (S : Nat → Bool) (rn : Nat → Nat) (k : Blk) (s : St) (w : World) (v u r1 r2 t1 t2 tl th R b1 b2 im : Nat) (Gl Gh : Env → Bool) (hx : rn v = u) (hR : 2 ^ (nS S v + 2) = R) (hA : Ar w k s) (hv : v < 256) (hrv : u < 256) (hS : S v = true) (h1 : v < tl) (h2 : v < th) (d1 : Den (imgS S rn tl) s.nd r1 t1 Gl) (d2 : Den (imgS S rn th) s.nd r2 t2 Gh) (hm : s.m + R ≤ 1000000000) (hp : 4 ≤ R)
    (e1 : w.cell? ⟨b1, 0, none⟩ = some (.map (some im))) (e2 : w.cell? ⟨b2, 0, none⟩ = some (.pointer (some ⟨k.p, 0, none⟩))) (hnf : ¬ fp k b2) (lk : (Instr.lookup 79 (.map (some im)) (.int .i32 v) true).run Try.prog w = .ok (.tuple #[.int .i32 u, .bool true]) w) :
    Calls Try.prog 39 #[.int .i32 v, .int .i32 r1, .int .i32 r2, .pointer (some ⟨b1, 0, none⟩), .pointer (some ⟨b2, 0, none⟩)] w (NodeOut k s w R (fun nd' r => ∃ t', anyB v t' ∧ Den (imgS S rn v) nd' r t' (fun ρ => if ρ u then Gh ρ else Gl ρ))) := by
  have HX := hide hx
  have HR := hide hR
  have HM : Hid (∀ w', Below w.heap.size w w' → Calls Try.prog 41 #[.pointer (some ⟨k.p, 0, none⟩), .int .i32 u, .int .i32 0, .int .i32 1] w' fun e w'' => ∃ k' s' r, e = .returned (.int .i32 (r : Nat)) ∧ Ar w'' k' s' ∧ Turn k k' w' w'' ∧ Up s s' ∧ s'.m ≤ s.m + 1 ∧ OkMk s.nd s'.nd u 0 1 r) := hide (fun w' (hb : Below w.heap.size w w') => mk_any k s u 0 1 w' (hA.below hb) (by omega) (fun _ => true) 256 256 _ _ .zero .one (by omega) (by omega) (by omega) rfl)
  have HD := hide (And.intro d1 d2)
  have hw0 := (Below.refl w.heap.size w).drew
  have l2 : b2 < w.heap.size := lt_of_cell e2
  clear hA d1 d2 hR hx
  go_enter Try.func39, Try.ntmps39
  go_wp2_with fail
  go_region_held3 (fun w' => w'.cell? ⟨b2, 0, none⟩ = some (.pointer (some ⟨k.p, 0, none⟩)))
    (first | exact e2 | exact k3 | exact k4)
    (first
      | (go_at_call 41; (with_reducible refine (HM.out _ hw0).mono ?_); rintro e w1 ⟨k1, s1, x, he, hA1, T1, U1, m1, o1⟩; subst he; have k3 := T1.cell e2 hnf; have HA1 := hide hA1; have HT1 := hide T1; have HU1 := hide U1; have HM1 := hide m1; have HO1 := hide o1; clear hA1 T1 U1 m1 o1)
      | (go_at_call 40; (with_reducible refine (rename_ite HX.out HR.out HA1.out hv hrv hS h1 h2 HD.out.1 HD.out.2 HU1.out HO1.out HM1.out hm HT1.out.p).mono ?_); rintro e w2 ⟨k2, s2, r, he, hA2, T2, U2, m2, o2⟩; subst he; have k4 := T2.cell k3 (HT1.out.fpn l2 hnf); have HZ := hide (show NodeOut k s w R (fun nd' r => ∃ t', anyB v t' ∧ Den (imgS S rn v) nd' r t' (fun ρ => if ρ u then Gh ρ else Gl ρ)) (.returned (.int .i32 (r : Nat))) w2 from ⟨k2, s2, r, rfl, hA2, (Turn.below (k := k) hw0).trans (HT1.out.trans T2), HU1.out.trans U2, m2, o2⟩); clear hA2 T2 U2 m2 o2))
  all_goals (
    go_wp2_with fail
    go_ret
    exact HZ.out)
theorem rename_made (S : Nat → Bool) (ps : List (Nat × Nat)) (nd0 : List Nd) (k0 : Blk) (w0 : World) (b1 b2 im n : Nat) (hps : ∀ p ∈ ps, p.2 < 256) (c1 : w0.cell? ⟨b1, 0, none⟩ = some (.map (some im))) (c2 : w0.cell? ⟨b2, 0, none⟩ = some (.pointer (some ⟨k0.p, 0, none⟩))) (n1 : ¬ fp k0 b1) (n2 : ¬ fp k0 b2) (n3 : ¬ fp k0 im) (hI : MInt Try.prog w0 21 21 .i32 im n enc3 (intoF ps)) :
    MadeOK S nd0 (imgS S (rnOf ps)) anyB (renT (rnOf ps)) k0 w0 39 #[.pointer (some ⟨b1, 0, none⟩), .pointer (some ⟨b2, 0, none⟩)] := by
  intro k s w v tl th r1 r2 t1 t2 Fl Fh T0 hA hex hv hS h1 h2 l1 d1 l2 d2 i1 i2 hm
  have hp := pow_four (nS S v)
  have e1 := T0.cell c1 n1
  have e2 := T0.cell c2 n2
  have hI' := hI.turn T0 n3
  rw [← T0.p] at e2
  have hnf : ¬ fp k b2 := T0.fpn (lt_of_cell c2) n2
  have lk : (Instr.lookup 79 (.map (some im)) (.int .i32 v) true).run Try.prog w = .ok (.tuple #[.int .i32 ((intoF ps v).getD 0), .bool (intoF ps v).isSome]) w :=
    hI'.look keyed3 Try.underlying79 Try.underlying21 (zero3 _) (key3 v (by omega) (by omega))
  have eT : renT (rnOf ps) (fun ρ => if ρ v then Fh ρ else Fl ρ) = fun ρ => if ρ (rnOf ps v) then renT (rnOf ps) Fh ρ else renT (rnOf ps) Fl ρ := rfl
  rw [eT]
  cases hf : intoF ps v with
  | none =>
    have hx : rnOf ps v = v := by unfold rnOf; rw [hf]
    rw [hf] at lk
    rw [hx]
    exact rename_made_no S (rnOf ps) k s w v r1 r2 t1 t2 tl th _ b1 b2 im _ _ hx rfl hA hv hv hS h1 h2 d1 d2 hm hp e1 e2 hnf lk
  | some c =>
    obtain ⟨p, hpm, _, rfl⟩ := intoF_some hf
    have hx : rnOf ps v = p.2 := by unfold rnOf; rw [hf]; simp
    rw [hf] at lk
    rw [hx]
    exact rename_made_some S (rnOf ps) k s w v p.2 r1 r2 t1 t2 tl th _ b1 b2 im _ _ hx rfl hA hv (hps p hpm) hS h1 h2 d1 d2 hm hp e1 e2 hnf lk
end Go.Proofs.Ytgfjdkkfgclhjaa.Bd
