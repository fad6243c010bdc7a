/- Diagrams in plain words: what a node means; each function is one node. No program is in sight. -/
import Derived.Lib.Index
namespace Go.Proofs.Ytgfjdkkfgclhjaa.Bd

abbrev Env := Nat → Bool
abbrev Nd := Nat × Nat × Nat
/-- node i tests variable t first (256: it is an end) and is the function F -/
inductive Den (S : Nat → Bool) (nd : List Nd) : Nat → Nat → (Env → Bool) → Prop
  | zero : Den S nd 0 256 (fun _ => false)
  | one : Den S nd 1 256 (fun _ => true)
  | node {i v lo hi tl th : Nat} {Fl Fh : Env → Bool} (h : nd[i]? = some (v, lo, hi)) (h2 : 2 ≤ i) (hl : lo < i) (hh : hi < i) (hne : lo ≠ hi) (h1 : v < tl) (h3 : v < th) (hv : v < 256) (hS : S v = true) (dl : Den S nd lo tl Fl) (dh : Den S nd hi th Fh) :
      Den S nd i v (fun ρ => if ρ v then Fh ρ else Fl ρ)

variable {S : Nat → Bool} {nd : List Nd}
theorem Den.grow {nd' : List Nd} (hx : ∀ (i : Nat) (x : Nd), nd[i]? = some x → nd'[i]? = some x) {i t : Nat} {F : Env → Bool} (h : Den S nd i t F) : Den S nd' i t F := by
  induction h with
  | zero => exact .zero
  | one => exact .one
  | node h h2 hl hh hne h1 h3 hv hS _ _ il ih => exact .node (hx _ _ h) h2 hl hh hne h1 h3 hv hS il ih
theorem Den.append {nx : List Nd} {i t : Nat} {F : Env → Bool} (h : Den S nd i t F) : Den S (nd ++ nx) i t F :=
  h.grow fun i x hx => by
    have hi : i < nd.length := by
      rcases Nat.lt_or_ge i nd.length with h' | h'
      · exact h'
      · rw [List.getElem?_eq_none h'] at hx; cases hx
    rw [List.getElem?_append_left hi]; exact hx
theorem Den.top {i t : Nat} {F : Env → Bool} (h : Den S nd i t F) : t ≤ 256 ∧ (t = 256 ↔ i < 2) := by
  cases h with
  | zero => simp
  | one => simp
  | node h h2 hl hh hne h1 h3 hv hS dl dh => exact ⟨by omega, by omega⟩
/-- what stands ahead of its first variable, a function doesn't see -/
theorem Den.indep {i t : Nat} {F : Env → Bool} (h : Den S nd i t F) : ∀ ρ ρ' : Env, (∀ x, t ≤ x → x < 256 → ρ x = ρ' x) → F ρ = F ρ' := by
  induction h with
  | zero => intro _ _ _; rfl
  | one => intro _ _ _; rfl
  | node h h2 hl hh hne h1 h3 hv hS _ _ il ih =>
    intro ρ ρ' hq
    simp only
    rw [hq _ (Nat.le_refl _) hv, il ρ ρ' (fun x hx h => hq x (by omega) h), ih ρ ρ' (fun x hx h => hq x (by omega) h)]
theorem Den.det {i t : Nat} {F : Env → Bool} (h : Den S nd i t F) : ∀ {s : Nat} {G : Env → Bool}, Den S nd i s G → t = s ∧ F = G := by
  induction h with
  | zero =>
    intro s G d
    cases d with
    | zero => exact ⟨rfl, rfl⟩
    | node _ h2 => omega
  | one =>
    intro s G d
    cases d with
    | one => exact ⟨rfl, rfl⟩
    | node _ h2 => omega
  | node h h2 hl hh hne h1 h3 hv hS _ _ il ih =>
    intro s G d
    cases d with
    | zero => omega
    | one => omega
    | node g g2 gl gh gne g1 g3 gv gS dl dh =>
      rw [h] at g
      cases g
      obtain ⟨_, e1⟩ := il dl
      obtain ⟨_, e2⟩ := ih dh
      subst e1 e2
      exact ⟨rfl, rfl⟩
def upd (ρ : Env) (v : Nat) (b : Bool) : Env := fun x => if x = v then b else ρ x
theorem upd_same (ρ : Env) (v : Nat) (b : Bool) : upd ρ v b v = b := by simp [upd]
theorem upd_other (ρ : Env) {v x : Nat} (b : Bool) (h : x ≠ v) : upd ρ v b x = ρ x := by simp [upd, h]
/-- a function that doesn't see v -/
theorem Den.free {i t : Nat} {F : Env → Bool} (h : Den S nd i t F) {v : Nat} (hv : v < t) (ρ : Env) (b : Bool) : F (upd ρ v b) = F ρ :=
  h.indep _ _ (fun x hx _ => upd_other _ _ (by omega))
/-- no two inner nodes are the same -/
def Once (nd : List Nd) : Prop := ∀ i j x, 2 ≤ i → 2 ≤ j → nd[i]? = some x → nd[j]? = some x → i = j
/-- EACH FUNCTION IS ONE NODE -/
theorem canon (ho : Once nd) : ∀ (n i j t s : Nat) (F : Env → Bool), i < n → j < n → Den S nd i t F → Den S nd j s F → i = j := by
  intro n
  induction n with
  | zero => intro i j t s F h; omega
  | succ n ih =>
    -- an end and an inner node are never one function
    have ends : ∀ (j v : Nat) (c : Bool), j < n + 1 → ¬ j < 2 → ¬ Den S nd j v (fun _ => c) := by
      intro j v c hj h2 d
      generalize hF : (fun _ : Env => c) = F at d
      cases d with
      | zero => omega
      | one => omega
      | @node _ _ lo hi tl th Fl Fh h h2 hl hh hne h1 h3 hv hS dl dh =>
        have e : Fl = Fh := by
          funext ρ
          have a := congrFun hF (upd ρ v true)
          have b := congrFun hF (upd ρ v false)
          simp only [upd_same, if_true, Bool.false_eq_true, if_false] at a b
          rw [dh.free h3] at a
          rw [dl.free h1] at b
          rw [← a, ← b]
        subst e
        exact hne (ih lo hi tl th Fl (by omega) (by omega) dl dh)
    have nodes : ∀ (i j v s : Nat) (F : Env → Bool), i < n + 1 → j < n + 1 → Den S nd i v F → ¬ i < 2 → Den S nd j s F → v < s → False := by
      intro i j v s F hi hj di h2 dj hs
      cases di with
      | zero => omega
      | one => omega
      | @node _ _ lo hi tl th Fl Fh h h2 hl hh hne h1 h3 hv hS dl dh =>
        have e : Fl = Fh := by
          funext ρ
          have a := dj.free hs ρ true
          have b := dj.free hs ρ false
          simp only [upd_same, if_true, Bool.false_eq_true, if_false] at a b
          rw [dh.free h3] at a
          rw [dl.free h1] at b
          exact b.trans a.symm
        subst e
        exact hne (ih lo hi tl th Fl (by omega) (by omega) dl dh)
    intro i j t s F hi hj di dj
    by_cases hi2 : i < 2
    · by_cases hj2 : j < 2
      · rcases (by omega : i = 0 ∨ i = 1) with rfl | rfl <;> rcases (by omega : j = 0 ∨ j = 1) with rfl | rfl
        · rfl
        · have := (di.det .zero).2; have h' := (dj.det .one).2
          rw [this] at h'; have := congrFun h' (fun _ => false); simp at this
        · have := (di.det .one).2; have h' := (dj.det .zero).2
          rw [this] at h'; have := congrFun h' (fun _ => false); simp at this
        · rfl
      · exfalso
        rcases (by omega : i = 0 ∨ i = 1) with rfl | rfl
        · have := (di.det .zero).2; subst this; exact ends j s false hj hj2 dj
        · have := (di.det .one).2; subst this; exact ends j s true hj hj2 dj
    · by_cases hj2 : j < 2
      · exfalso
        rcases (by omega : j = 0 ∨ j = 1) with rfl | rfl
        · have := (dj.det .zero).2; subst this; exact ends i t false hi hi2 di
        · have := (dj.det .one).2; subst this; exact ends i t true hi hi2 di
      · rcases Nat.lt_trichotomy t s with hts | hts | hts
        · exact (nodes i j t s F hi hj di hi2 dj hts).elim
        · subst hts
          generalize hG : F = G at dj
          cases di with
          | zero => omega
          | one => omega
          | @node _ _ lo hi' tl th Fl Fh h h2 hl hh hne h1 h3 hv hS dl dh =>
            cases dj with
            | zero => omega
            | one => omega
            | @node _ _ lo2 hi2' tl2 th2 Fl2 Fh2 g g2 gl gh gne g1 g3 gv gS dl2 dh2 =>
              have el : Fl = Fl2 := by
                funext ρ
                have b := congrFun hG (upd ρ t false)
                simp only [upd_same, Bool.false_eq_true, if_false] at b
                rwa [dl.free h1, dl2.free g1] at b
              have eh : Fh = Fh2 := by
                funext ρ
                have b := congrFun hG (upd ρ t true)
                simp only [upd_same, if_true] at b
                rwa [dh.free h3, dh2.free g3] at b
              subst el eh
              have e1 := ih lo lo2 tl tl2 Fl (by omega) (by omega) dl dl2
              have e2 := ih hi' hi2' th th2 Fh (by omega) (by omega) dh dh2
              subst e1 e2
              exact ho i j _ h2 g2 h g
        · exact (nodes j i s t F hj hi dj hj2 di hts).elim
theorem Den.mono {S' : Nat → Bool} (hs : ∀ x, S x = true → S' x = true) {i t : Nat} {F : Env → Bool} (h : Den S nd i t F) : Den S' nd i t F := by
  induction h with
  | zero => exact .zero
  | one => exact .one
  | node h h2 hl hh hne h1 h3 hv hS _ _ il ih => exact .node h h2 hl hh hne h1 h3 hv (hs _ hS) il ih
theorem Den.all {i t : Nat} {F : Env → Bool} (h : Den S nd i t F) : Den (fun _ => true) nd i t F := h.mono (fun _ _ => rfl)
theorem Den.eq {S' : Nat → Bool} (ho : Once nd) {i j t s : Nat} {F : Env → Bool} (h : Den S nd i t F) (h' : Den S' nd j s F) : i = j := canon ho (max i j + 1) i j t s F (by omega) (by omega) h.all h'.all

/-! ### the numbers of variables from v on -/
def nS (S : Nat → Bool) (v : Nat) : Nat := ((List.range (256 - v)).filter fun x => S (v + x)).length
theorem nS_end (S : Nat → Bool) {v : Nat} (h : 256 ≤ v) : nS S v = 0 := by
  unfold nS
  rw [show 256 - v = 0 by omega]; rfl
theorem nS_step (S : Nat → Bool) {v : Nat} (h : v < 256) : nS S v = (if S v then 1 else 0) + nS S (v + 1) := by
  unfold nS
  rw [show 256 - v = (256 - (v + 1)) + 1 by omega, List.range_succ_eq_map, List.filter_cons, List.filter_map, Nat.add_zero]
  have e : ((fun x => S (v + x)) ∘ Nat.succ) = fun x => S (v + 1 + x) := by
    funext x
    simp only [Function.comp]
    congr 1
    omega
  rw [e]
  split <;> simp <;> omega
theorem nS_le (S : Nat → Bool) {v v' : Nat} (h : v ≤ v') : nS S v' ≤ nS S v := by
  induction h with
  | refl => exact Nat.le_refl _
  | @step m hm ih =>
    show nS S (m + 1) ≤ nS S v
    rcases Nat.lt_or_ge m 256 with h' | h'
    · have := nS_step S h'; omega
    · rw [nS_end S (by omega : 256 ≤ m + 1)]; omega
/-! ### a node of a variable and what becomes of it -/
structure WF (nd : List Nd) : Prop where
  e0 : nd[0]? = some (256, 0, 0)
  e1 : nd[1]? = some (256, 0, 0)
  once : Once nd
  den : ∀ i, i < nd.length → ∃ t F, Den (fun _ => true) nd i t F
theorem lt_of_some {α : Type} {l : List α} {i : Nat} {x : α} (h : l[i]? = some x) : i < l.length := by
  rcases Nat.lt_or_ge i l.length with h' | h'
  · exact h'
  · rw [List.getElem?_eq_none h'] at h; cases h
theorem WF.two (h : WF nd) : 2 ≤ nd.length := by have := lt_of_some h.e1; omega
theorem Den.lt {i t : Nat} {F : Env → Bool} (hw : WF nd) (h : Den S nd i t F) : i < nd.length := by
  have := hw.two
  cases h with
  | zero => omega
  | one => omega
  | node h _ => exact lt_of_some h
/-- the inner node's row -/
theorem Den.row {i t : Nat} {F : Env → Bool} (h : Den S nd i t F) (h2 : 2 ≤ i) : ∃ lo hi tl th Fl Fh, nd[i]? = some (t, lo, hi) ∧ lo < i ∧ hi < i ∧ lo ≠ hi ∧ t < tl ∧ t < th ∧ t < 256 ∧ S t = true ∧ Den S nd lo tl Fl ∧ Den S nd hi th Fh ∧ F = fun ρ => if ρ t then Fh ρ else Fl ρ := by
  cases h with
  | zero => omega
  | one => omega
  | node h h2 hl hh hne h1 h3 hv hS dl dh => exact ⟨_, _, _, _, _, _, h, hl, hh, hne, h1, h3, hv, hS, dl, dh, rfl⟩
theorem Den.ends {i t : Nat} {F : Env → Bool} (h : Den S nd i t F) (h2 : i < 2) : t = 256 ∧ ∀ ρ, F ρ = decide (i = 1) := by
  cases h with
  | zero => exact ⟨rfl, fun _ => rfl⟩
  | one => exact ⟨rfl, fun _ => rfl⟩
  | node _ h2' => omega
theorem ite_var_same {Fl Fh : Env → Bool} (v : Nat) (h : Fl = Fh) : (fun ρ : Env => if ρ v then Fh ρ else Fl ρ) = Fl := by
  subst h; funext ρ; split <;> rfl
/-- a node that is there already -/
theorem mk_old (hw : WF nd) {v lo hi tl th i : Nat} {Fl Fh : Env → Bool} (hl : Den S nd lo tl Fl) (hh : Den S nd hi th Fh) (h1 : v < tl) (h2 : v < th) (hv : v < 256) (hS : S v = true) (h : nd[i]? = some (v, lo, hi)) :
    2 ≤ i ∧ Den S nd i v (fun ρ => if ρ v then Fh ρ else Fl ρ) := by
  have hi2 : 2 ≤ i := by
    rcases (by omega : i = 0 ∨ i = 1 ∨ 2 ≤ i) with rfl | rfl | h'
    · rw [hw.e0] at h; cases h; omega
    · rw [hw.e1] at h; cases h; omega
    · exact h'
  obtain ⟨t, F, d⟩ := hw.den i (lt_of_some h)
  obtain ⟨lo', hi', tl', th', Fl', Fh', hr, r1, r2, r3, r4, r5, r6, _, dl, dh, _⟩ := d.row hi2
  rw [h] at hr
  cases hr
  exact ⟨hi2, .node h hi2 r1 r2 r3 h1 h2 hv hS hl hh⟩
theorem WF.push (hw : WF nd) {v lo hi tl th : Nat} {Fl Fh : Env → Bool} (hl : Den S nd lo tl Fl) (hh : Den S nd hi th Fh) (h1 : v < tl) (h2 : v < th) (hv : v < 256) (hS : S v = true) (hne : lo ≠ hi) (hnew : ∀ i : Nat, nd[i]? ≠ some (v, lo, hi)) :
    WF (nd ++ [(v, lo, hi)]) ∧ Den S (nd ++ [(v, lo, hi)]) nd.length v (fun ρ => if ρ v then Fh ρ else Fl ρ) := by
  have h2' := hw.two
  have hnew' : (nd ++ [(v, lo, hi)])[nd.length]? = some (v, lo, hi) := by rw [List.getElem?_append_right (Nat.le_refl _)]; simp
  have hold : ∀ i, i < nd.length → (nd ++ [(v, lo, hi)])[i]? = nd[i]? := fun i hi => List.getElem?_append_left hi
  have d : Den S (nd ++ [(v, lo, hi)]) nd.length v (fun ρ => if ρ v then Fh ρ else Fl ρ) := .node hnew' h2' (hl.lt hw) (hh.lt hw) hne h1 h2 hv hS hl.append hh.append
  refine ⟨⟨by rw [hold _ (by omega)]; exact hw.e0, by rw [hold _ (by omega)]; exact hw.e1, fun i j x hi hj gi gj => ?_, fun i hi => ?_⟩, d⟩
  · have li := lt_of_some gi
    have lj := lt_of_some gj
    simp only [List.length_append, List.length_singleton] at li lj
    rcases Nat.lt_or_ge i nd.length with a | a <;> rcases Nat.lt_or_ge j nd.length with b | b
    · rw [hold _ a] at gi; rw [hold _ b] at gj; exact hw.once i j x hi hj gi gj
    · obtain rfl : j = nd.length := by omega
      rw [hnew'] at gj; cases gj; rw [hold _ a] at gi; exact absurd gi (hnew i)
    · obtain rfl : i = nd.length := by omega
      rw [hnew'] at gi; cases gi; rw [hold _ b] at gj; exact absurd gj (hnew j)
    · omega
  · simp only [List.length_append, List.length_singleton] at hi
    rcases Nat.lt_or_ge i nd.length with a | a
    · obtain ⟨t, F, d'⟩ := hw.den i a
      exact ⟨t, F, d'.append⟩
    · obtain rfl : i = nd.length := by omega
      exact ⟨_, _, d.all⟩
/-! ### what becomes of a function when a variable has a value -/
def cut (nd : List Nd) (i v : Nat) (b : Bool) : Nat := match nd[i]? with | some (v', lo, hi) => if v' ≠ v then i else if b then hi else lo | none => i
theorem cut_den (hw : WF nd) {i t v : Nat} {F : Env → Bool} (h : Den S nd i t F) (hv : v ≤ t) (hv2 : v < 256) (b : Bool) :
    ∃ t', v < t' ∧ Den S nd (cut nd i v b) t' (fun ρ => F (upd ρ v b)) := by
  by_cases hi : i < 2
  · obtain ⟨rfl, hF⟩ := h.ends hi
    have e : (fun ρ => F (upd ρ v b)) = F := by funext ρ; rw [hF, hF]
    have ec : cut nd i v b = i := by
      unfold cut
      rcases (by omega : i = 0 ∨ i = 1) with rfl | rfl
      · rw [hw.e0]; simp only; rw [if_pos (by omega)]
      · rw [hw.e1]; simp only; rw [if_pos (by omega)]
    rw [e, ec]
    exact ⟨256, hv2, h⟩
  · obtain ⟨lo, hi', tl, th, Fl, Fh, hr, r1, r2, r3, r4, r5, r6, r7, dl, dh, rfl⟩ := h.row (by omega)
    unfold cut
    rw [hr]
    simp only
    by_cases ht : t = v
    · subst ht
      rw [if_neg (by simp)]
      cases b
      · simp only [upd_same, Bool.false_eq_true, if_false]
        refine ⟨tl, r4, ?_⟩
        have e : (fun ρ => Fl (upd ρ t false)) = Fl := by funext ρ; exact dl.free r4 ρ false
        rw [e]; exact dl
      · simp only [upd_same, if_true]
        refine ⟨th, r5, ?_⟩
        have e : (fun ρ => Fh (upd ρ t true)) = Fh := by funext ρ; exact dh.free r5 ρ true
        rw [e]; exact dh
    · rw [if_pos ht]
      refine ⟨t, by omega, ?_⟩
      have e : (fun ρ : Env => if (upd ρ v b) t then Fh (upd ρ v b) else Fl (upd ρ v b)) = fun ρ => if ρ t then Fh ρ else Fl ρ := by
        funext ρ
        rw [upd_other _ _ (by omega), dh.free (by omega), dl.free (by omega)]
      rw [e]; exact h
theorem shannon (F : Env → Bool) (v : Nat) (ρ : Env) : F ρ = if ρ v then F (upd ρ v true) else F (upd ρ v false) := by
  have e : upd ρ v (ρ v) = ρ := by
    funext x
    unfold upd
    split
    · rename_i h; rw [h]
    · rfl
  cases h : ρ v
  · rw [h] at e; simp [e]
  · rw [h] at e; simp [e]
end Go.Proofs.Ytgfjdkkfgclhjaa.Bd
