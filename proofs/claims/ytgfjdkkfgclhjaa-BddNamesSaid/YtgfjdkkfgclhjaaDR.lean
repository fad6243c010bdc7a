/- What lies beneath a node; on which variables a function hangs. -/
import Derived.Test.YtgfjdkkfgclhjaaCC
import Derived.Test.YtgfjdkkfgclhjaaZL
namespace Go.Proofs.Ytgfjdkkfgclhjaa.Bd

inductive Reach (nd : List Nd) : Nat → Nat → Prop
  | refl (f : Nat) : Reach nd f f
  | lo {f v lo hi y : Nat} (h : nd[f]? = some (v, lo, hi)) (h2 : 2 ≤ f) (r : Reach nd lo y) : Reach nd f y
  | hi {f v lo hi y : Nat} (h : nd[f]? = some (v, lo, hi)) (h2 : 2 ≤ f) (r : Reach nd hi y) : Reach nd f y
theorem WF.row {nd : List Nd} (hw : WF nd) {f : Nat} (hf : f < nd.length) (h2 : 2 ≤ f) : ∃ v lo hi, nd[f]? = some (v, lo, hi) ∧ lo < f ∧ hi < f ∧ lo ≠ hi ∧ v < 256 := by
  obtain ⟨t, F, d⟩ := hw.den f hf
  obtain ⟨lo, hi, _, _, _, _, hr, r1, r2, r3, _, _, r6, _⟩ := d.row h2
  exact ⟨t, lo, hi, hr, r1, r2, r3, r6⟩
/-- the visit, said by what it leaves -/
structure VisOK (nd : List Nd) (he : Int → Bool) (fr : List Nat) (f : Nat) (R : List Nat) : Prop where
  old : ∀ x ∈ fr, x ∈ R
  me : f < 2 ∨ f ∈ R ∨ he f = true
  new : ∀ x ∈ R, x ∈ fr ∨ (Reach nd f x ∧ he x = false ∧ 2 ≤ x)
  shut : ∀ x ∈ R, x ∉ fr → ∀ v lo hi, nd[x]? = some (v, lo, hi) → (lo < 2 ∨ lo ∈ R ∨ he lo = true) ∧ (hi < 2 ∨ hi ∈ R ∨ he hi = true)
theorem vis_ok {nd : List Nd} (hw : WF nd) {he : Int → Bool} : ∀ (n : Nat) (fr : List Nat) (f : Nat), f < n → f < nd.length → VisOK nd he fr f (vis nd he n fr f) := by
  intro n
  induction n with
  | zero => intro fr f h; omega
  | succ n ih =>
    intro fr f hn hf
    by_cases hc : f < 2 ∨ f ∈ fr ∨ he f = true
    · have e : vis nd he (n + 1) fr f = fr := by unfold vis; rw [if_pos hc]
      rw [e]
      exact ⟨fun x h => h, hc, fun x h => .inl h, fun x h h' => absurd h h'⟩
    · have h2 : 2 ≤ f := by
        rcases Nat.lt_or_ge f 2 with h | h
        · exact absurd (.inl h) hc
        · exact h
      obtain ⟨v, lo, hi, hr, r1, r2, r3, r4⟩ := hw.row hf h2
      have e : vis nd he (n + 1) fr f = vis nd he n (vis nd he n (fr ++ [f]) lo) hi := by
        conv => lhs; unfold vis
        rw [if_neg hc, hr]
      rw [e]
      have a := ih (fr ++ [f]) lo (by omega) (by omega)
      have b := ih (vis nd he n (fr ++ [f]) lo) hi (by omega) (by omega)
      have hfa : f ∈ vis nd he n (fr ++ [f]) lo := a.old f (by simp)
      have hef : he f = false := by
        cases h : he f
        · rfl
        · exact absurd (.inr (.inr h)) hc
      refine ⟨fun x h => b.old x (a.old x (by simp [h])), .inr (.inl (b.old f hfa)), fun x h => ?_, fun x h hx v' lo' hi' hr' => ?_⟩
      · rcases b.new x h with h | ⟨h, h3, h4⟩
        · rcases a.new x h with h | ⟨h, h3, h4⟩
          · rcases List.mem_append.1 h with h | h
            · exact .inl h
            · have : x = f := by simpa using h
              subst this
              exact .inr ⟨.refl _, hef, h2⟩
          · exact .inr ⟨.lo hr h2 h, h3, h4⟩
        · exact .inr ⟨.hi hr h2 h, h3, h4⟩
      · by_cases hxa : x ∈ vis nd he n (fr ++ [f]) lo
        · by_cases hxf : x = f
          · subst hxf
            rw [hr] at hr'
            cases hr'
            exact ⟨a.me.imp id (fun h => h.imp (b.old _) id), b.me⟩
          · obtain ⟨s1, s2⟩ := a.shut x hxa (fun h => by
              rcases List.mem_append.1 h with h | h
              · exact hx h
              · exact hxf (by simpa using h)) _ _ _ hr'
            exact ⟨s1.imp id (fun h => h.imp (b.old _) id), s2.imp id (fun h => h.imp (b.old _) id)⟩
        · exact b.shut x h hxa _ _ _ hr'
theorem reach_lt {nd : List Nd} (hw : WF nd) {f y : Nat} (r : Reach nd f y) : f < nd.length → y ≤ f := by
  induction r with
  | refl => intro _; exact Nat.le_refl _
  | lo h h2 _ ih =>
    intro hf
    obtain ⟨v, lo, hi, hr, r1, r2, _⟩ := hw.row hf h2
    rw [hr] at h
    cases h
    have := ih (by omega)
    omega
  | hi h h2 _ ih =>
    intro hf
    obtain ⟨v, lo, hi, hr, r1, r2, _⟩ := hw.row hf h2
    rw [hr] at h
    cases h
    have := ih (by omega)
    omega
theorem shut_reach {nd : List Nd} {he : Int → Bool} {R : List Nat} (hhe : ∀ x : Nat, he x = true → ∀ v lo hi, nd[x]? = some (v, lo, hi) → (lo < 2 ∨ he lo = true) ∧ (hi < 2 ∨ he hi = true))
    (hs : ∀ x ∈ R, ∀ v lo hi, nd[x]? = some (v, lo, hi) → (lo < 2 ∨ lo ∈ R ∨ he lo = true) ∧ (hi < 2 ∨ hi ∈ R ∨ he hi = true)) {f y : Nat} (r : Reach nd f y) : (f < 2 ∨ f ∈ R ∨ he f = true) → (y < 2 ∨ y ∈ R ∨ he y = true) := by
  induction r with
  | refl => exact id
  | lo h h2 _ ih =>
    rintro (h' | h' | h')
    · omega
    · exact ih (hs _ h' _ _ _ h).1
    · exact ih ((hhe _ h' _ _ _ h).1.imp id .inr)
  | hi h h2 _ ih =>
    rintro (h' | h' | h')
    · omega
    · exact ih (hs _ h' _ _ _ h).2
    · exact ih ((hhe _ h' _ _ _ h).2.imp id .inr)
theorem beneath_iff {nd : List Nd} (hw : WF nd) {f y : Nat} (hf : f < nd.length) : y ∈ beneath nd f ↔ Reach nd f y ∧ 2 ≤ y := by
  have a := vis_ok hw (he := noH) (f + 1) [] f (by omega) hf
  constructor
  · intro h
    rcases a.new y h with h | ⟨h, _, h2⟩
    · cases h
    · exact ⟨h, h2⟩
  · rintro ⟨r, h2⟩
    rcases shut_reach (he := noH) (R := vis nd noH (f + 1) [] f) (fun x h => by cases h) (fun x h => a.shut x h (by simp)) r a.me with h | h | h
    · omega
    · exact h
    · cases h
/-- a function hangs on a variable -/
def Hangs (F : Env → Bool) (v : Nat) : Prop := ∃ ρ, F (upd ρ v false) ≠ F (upd ρ v true)
theorem Den.hangs_top {S : Nat → Bool} {nd : List Nd} (ho : Once nd) {f t : Nat} {F : Env → Bool} (d : Den S nd f t F) (h2 : 2 ≤ f) : Hangs F t := by
  obtain ⟨lo, hi, tl, th, Fl, Fh, hr, r1, r2, r3, r4, r5, r6, r7, dl, dh, rfl⟩ := d.row h2
  have hne : Fl ≠ Fh := fun e => by subst e; exact r3 (dl.eq ho dh)
  obtain ⟨ρ, hρ⟩ : ∃ ρ, Fl ρ ≠ Fh ρ := by
    apply Classical.byContradiction
    intro h
    exact hne (funext fun ρ => Classical.byContradiction fun h' => h ⟨ρ, h'⟩)
  refine ⟨ρ, ?_⟩
  simp only [upd_same, Bool.false_eq_true, if_false, if_true]
  rw [dl.free r4, dh.free r5]
  exact hρ
theorem Den.hangs {S : Nat → Bool} {nd : List Nd} (ho : Once nd) {f y : Nat} (r : Reach nd f y) : ∀ {t : Nat} {F : Env → Bool}, Den S nd f t F → 2 ≤ y → ∃ t', nd[y]?.map Prod.fst = some t' ∧ t ≤ t' ∧ Hangs F t' := by
  induction r with
  | refl f =>
    intro t F d h2
    obtain ⟨lo, hi, _, _, _, _, hr, _⟩ := d.row h2
    exact ⟨t, by rw [hr]; rfl, Nat.le_refl _, d.hangs_top ho h2⟩
  | lo h h2 _ ih =>
    intro t F d hy
    obtain ⟨lo, hi, tl, th, Fl, Fh, hr, r1, r2, r3, r4, r5, r6, r7, dl, dh, rfl⟩ := d.row h2
    rw [hr] at h
    simp only [Option.some.injEq, Prod.mk.injEq] at h
    obtain ⟨rfl, rfl, rfl⟩ := h
    obtain ⟨t', e, ht, ρ, hρ⟩ := ih dl hy
    refine ⟨t', e, by omega, upd ρ t false, ?_⟩
    simp only [upd_other _ _ (show t ≠ t' by omega), upd_same, Bool.false_eq_true, if_false]
    rw [upd_swap _ _ _ (show t ≠ t' by omega), upd_swap _ _ _ (show t ≠ t' by omega), dl.free r4, dl.free r4]
    exact hρ
  | hi h h2 _ ih =>
    intro t F d hy
    obtain ⟨lo, hi, tl, th, Fl, Fh, hr, r1, r2, r3, r4, r5, r6, r7, dl, dh, rfl⟩ := d.row h2
    rw [hr] at h
    simp only [Option.some.injEq, Prod.mk.injEq] at h
    obtain ⟨rfl, rfl, rfl⟩ := h
    obtain ⟨t', e, ht, ρ, hρ⟩ := ih dh hy
    refine ⟨t', e, by omega, upd ρ t true, ?_⟩
    simp only [upd_other _ _ (show t ≠ t' by omega), upd_same, if_true]
    rw [upd_swap _ _ _ (show t ≠ t' by omega), upd_swap _ _ _ (show t ≠ t' by omega), dh.free r5, dh.free r5]
    exact hρ
theorem Den.hung {S : Nat → Bool} {nd : List Nd} {f t : Nat} {F : Env → Bool} (d : Den S nd f t F) : ∀ v, Hangs F v → ∃ y lo hi, Reach nd f y ∧ 2 ≤ y ∧ nd[y]? = some (v, lo, hi) := by
  induction d with
  | zero => rintro v ⟨ρ, h⟩; exact absurd rfl h
  | one => rintro v ⟨ρ, h⟩; exact absurd rfl h
  | @node i w lo hi tl th Fl Fh h h2 hl hh hne h1 h3 hv hS dl dh il ih =>
    rintro v ⟨ρ, hρ⟩
    by_cases e : v = w
    · subst e
      exact ⟨i, lo, hi, .refl _, h2, h⟩
    · simp only [upd_other _ _ (Ne.symm e)] at hρ
      cases hw : ρ w
      · simp only [hw, Bool.false_eq_true, if_false] at hρ
        obtain ⟨y, a, b, r, h5, h6⟩ := il v ⟨ρ, hρ⟩
        exact ⟨y, a, b, .lo h h2 r, h5, h6⟩
      · simp only [hw, if_true] at hρ
        obtain ⟨y, a, b, r, h5, h6⟩ := ih v ⟨ρ, hρ⟩
        exact ⟨y, a, b, .hi h h2 r, h5, h6⟩
theorem supL_mem {S : Nat → Bool} {nd : List Nd} (hw : WF nd) {f t : Nat} {F : Env → Bool} (d : Den S nd f t F) (x : Int) : x ∈ supL nd f ↔ ∃ v : Nat, x = v ∧ Hangs F v := by
  have hf := d.lt hw
  rw [show supL nd f = Ld.normL ((beneath nd f).map fun x => (topOf nd x : Int)) from rfl, Ld.norm_mem, List.mem_map]
  constructor
  · rintro ⟨y, hy, rfl⟩
    obtain ⟨r, h2⟩ := (beneath_iff hw hf).1 hy
    obtain ⟨t', e, _, hh⟩ := d.hangs hw.once r h2
    refine ⟨t', ?_, hh⟩
    unfold topOf
    cases hx : nd[y]? with
    | none => rw [hx] at e; cases e
    | some z => rw [hx] at e; simp at e; simp [e]
  · rintro ⟨v, rfl, hh⟩
    obtain ⟨y, lo, hi, r, h2, hr⟩ := d.hung v hh
    refine ⟨y, (beneath_iff hw hf).2 ⟨r, h2⟩, ?_⟩
    unfold topOf
    rw [hr]
theorem supL_up (nd : List Nd) (f : Nat) : Ld.Up (supL nd f) := Ld.norm_up _
/-- on what a function hangs, its diagram has; on nothing else -/
theorem Den.hangs_in {S : Nat → Bool} {nd : List Nd} {f t : Nat} {F : Env → Bool} (d : Den S nd f t F) {v : Nat} (h : Hangs F v) : t ≤ v ∧ v < 256 ∧ S v = true := by
  obtain ⟨ρ, hρ⟩ := h
  have h1 : t ≤ v := by
    rcases Nat.lt_or_ge v t with h | h
    · rw [d.free h, d.free h] at hρ; exact absurd rfl hρ
    · exact h
  have h2 : ∃ x, x = v ∧ x < 256 ∧ S x = true := by
    apply Classical.byContradiction
    intro hno
    apply hρ
    apply d.indepS
    intro x _ hx hS
    by_cases e : x = v
    · exact absurd ⟨x, e, hx, hS⟩ hno
    · rw [upd_other _ _ e, upd_other _ _ e]
  obtain ⟨x, rfl, h3, h4⟩ := h2
  exact ⟨h1, h3, h4⟩
/-- the same diagram, over just the variables on which it hangs -/
theorem Den.narrow {S S' : Nat → Bool} {nd : List Nd} (ho : Once nd) {f t : Nat} {F : Env → Bool} (d : Den S nd f t F) : (∀ v, Hangs F v → S' v = true) → Den S' nd f t F := by
  induction d with
  | zero => intro _; exact .zero
  | one => intro _; exact .one
  | @node i w lo hi tl th Fl Fh h h2 hl hh hne h1 h3 hv hS dl dh il ih =>
    intro hs
    have dn : Den S nd i w (fun ρ => if ρ w then Fh ρ else Fl ρ) := .node h h2 hl hh hne h1 h3 hv hS dl dh
    refine .node h h2 hl hh hne h1 h3 hv (hs w (dn.hangs_top ho h2)) (il fun v hv' => hs v ?_) (ih fun v hv' => hs v ?_)
    · have := (dl.hangs_in hv').1
      obtain ⟨ρ, hρ⟩ := hv'
      refine ⟨upd ρ w false, ?_⟩
      simp only [upd_other _ _ (show w ≠ v by omega), upd_same, Bool.false_eq_true, if_false]
      rw [upd_swap _ _ _ (show w ≠ v by omega), upd_swap _ _ _ (show w ≠ v by omega), dl.free h1, dl.free h1]
      exact hρ
    · have := (dh.hangs_in hv').1
      obtain ⟨ρ, hρ⟩ := hv'
      refine ⟨upd ρ w true, ?_⟩
      simp only [upd_other _ _ (show w ≠ v by omega), upd_same, if_true]
      rw [upd_swap _ _ _ (show w ≠ v by omega), upd_swap _ _ _ (show w ≠ v by omega), dh.free h3, dh.free h3]
      exact hρ
end Go.Proofs.Ytgfjdkkfgclhjaa.Bd
