/- What the claim leans on, part 1 of 13: DP PO EA Base O MM BA BB T BT BC BI BD. -/
import Derived.BigQuiet
import Derived.Deep.QuietTactic
import Derived.Deep.RegionHeld3
import Derived.DeepKeys4
import Derived.Handy
import Derived.Laws.AppendOwnNone
import Derived.Lib.Index
import Derived.Maps.OwnSet
import Derived.StillTailTactics
import Derived.WalkKit
import Derived.WalkSpells
import Derived.Test.YtgfjdkkfgclhjaaGreatProg
/- Diagrams in plain words: what a node means; each function is one node. No program is in sight. -/
namespace Go.Proofs.YtgfjdkkfgclhjaaGreat.Bd

abbrev Env := Nat → Bool
abbrev Nd := Nat × Nat × Nat
/-- node i tests variable t first (256: it is an end) and is the function F -/
inductive Den (S : Nat → Bool) (nd : List Nd) : Nat → Nat → (Env → Bool) → Prop
  | zero : Den S nd 0 256 (fun _ => false)
  | one : Den S nd 1 256 (fun _ => true)
  | node {i v lo hi tl th : Nat} {Fl Fh : Env → Bool} (h : nd[i]? = some (v, lo, hi)) (h2 : 2 ≤ i) (hl : lo < i) (hh : hi < i) (hne : lo ≠ hi) (h1 : v < tl) (h3 : v < th) (hv : v < 256) (hS : S v = true) (dl : Den S nd lo tl Fl) (dh : Den S nd hi th Fh) :
      Den S nd i v (fun ρ => if ρ v then Fh ρ else Fl ρ)

variable {S : Nat → Bool} {nd : List Nd}
theorem Den.grow {nd' : List Nd} (hx : ∀ (i : Nat) (x : Nd), nd[i]? = some x → nd'[i]? = some x) {i t : Nat} {F : Env → Bool} (h : Den S nd i t F) : Den S nd' i t F := by
  induction h with
  | zero => exact .zero
  | one => exact .one
  | node h h2 hl hh hne h1 h3 hv hS _ _ il ih => exact .node (hx _ _ h) h2 hl hh hne h1 h3 hv hS il ih
theorem Den.append {nx : List Nd} {i t : Nat} {F : Env → Bool} (h : Den S nd i t F) : Den S (nd ++ nx) i t F :=
  h.grow fun i x hx => by
    have hi : i < nd.length := by
      rcases Nat.lt_or_ge i nd.length with h' | h'
      · exact h'
      · rw [List.getElem?_eq_none h'] at hx; cases hx
    rw [List.getElem?_append_left hi]; exact hx
theorem Den.top {i t : Nat} {F : Env → Bool} (h : Den S nd i t F) : t ≤ 256 ∧ (t = 256 ↔ i < 2) := by
  cases h with
  | zero => simp
  | one => simp
  | node h h2 hl hh hne h1 h3 hv hS dl dh => exact ⟨by omega, by omega⟩
/-- what stands ahead of its first variable, a function doesn't see -/
theorem Den.indep {i t : Nat} {F : Env → Bool} (h : Den S nd i t F) : ∀ ρ ρ' : Env, (∀ x, t ≤ x → x < 256 → ρ x = ρ' x) → F ρ = F ρ' := by
  induction h with
  | zero => intro _ _ _; rfl
  | one => intro _ _ _; rfl
  | node h h2 hl hh hne h1 h3 hv hS _ _ il ih =>
    intro ρ ρ' hq
    simp only
    rw [hq _ (Nat.le_refl _) hv, il ρ ρ' (fun x hx h => hq x (by omega) h), ih ρ ρ' (fun x hx h => hq x (by omega) h)]
theorem Den.det {i t : Nat} {F : Env → Bool} (h : Den S nd i t F) : ∀ {s : Nat} {G : Env → Bool}, Den S nd i s G → t = s ∧ F = G := by
  induction h with
  | zero =>
    intro s G d
    cases d with
    | zero => exact ⟨rfl, rfl⟩
    | node _ h2 => omega
  | one =>
    intro s G d
    cases d with
    | one => exact ⟨rfl, rfl⟩
    | node _ h2 => omega
  | node h h2 hl hh hne h1 h3 hv hS _ _ il ih =>
    intro s G d
    cases d with
    | zero => omega
    | one => omega
    | node g g2 gl gh gne g1 g3 gv gS dl dh =>
      rw [h] at g
      cases g
      obtain ⟨_, e1⟩ := il dl
      obtain ⟨_, e2⟩ := ih dh
      subst e1 e2
      exact ⟨rfl, rfl⟩
def upd (ρ : Env) (v : Nat) (b : Bool) : Env := fun x => if x = v then b else ρ x
theorem upd_same (ρ : Env) (v : Nat) (b : Bool) : upd ρ v b v = b := by simp [upd]
theorem upd_other (ρ : Env) {v x : Nat} (b : Bool) (h : x ≠ v) : upd ρ v b x = ρ x := by simp [upd, h]
/-- a function that doesn't see v -/
theorem Den.free {i t : Nat} {F : Env → Bool} (h : Den S nd i t F) {v : Nat} (hv : v < t) (ρ : Env) (b : Bool) : F (upd ρ v b) = F ρ :=
  h.indep _ _ (fun x hx _ => upd_other _ _ (by omega))
/-- no two inner nodes are the same -/
def Once (nd : List Nd) : Prop := ∀ i j x, 2 ≤ i → 2 ≤ j → nd[i]? = some x → nd[j]? = some x → i = j
/-- EACH FUNCTION IS ONE NODE -/
theorem canon (ho : Once nd) : ∀ (n i j t s : Nat) (F : Env → Bool), i < n → j < n → Den S nd i t F → Den S nd j s F → i = j := by
  intro n
  induction n with
  | zero => intro i j t s F h; omega
  | succ n ih =>
    -- an end and an inner node are never one function
    have ends : ∀ (j v : Nat) (c : Bool), j < n + 1 → ¬ j < 2 → ¬ Den S nd j v (fun _ => c) := by
      intro j v c hj h2 d
      generalize hF : (fun _ : Env => c) = F at d
      cases d with
      | zero => omega
      | one => omega
      | @node _ _ lo hi tl th Fl Fh h h2 hl hh hne h1 h3 hv hS dl dh =>
        have e : Fl = Fh := by
          funext ρ
          have a := congrFun hF (upd ρ v true)
          have b := congrFun hF (upd ρ v false)
          simp only [upd_same, if_true, Bool.false_eq_true, if_false] at a b
          rw [dh.free h3] at a
          rw [dl.free h1] at b
          rw [← a, ← b]
        subst e
        exact hne (ih lo hi tl th Fl (by omega) (by omega) dl dh)
    have nodes : ∀ (i j v s : Nat) (F : Env → Bool), i < n + 1 → j < n + 1 → Den S nd i v F → ¬ i < 2 → Den S nd j s F → v < s → False := by
      intro i j v s F hi hj di h2 dj hs
      cases di with
      | zero => omega
      | one => omega
      | @node _ _ lo hi tl th Fl Fh h h2 hl hh hne h1 h3 hv hS dl dh =>
        have e : Fl = Fh := by
          funext ρ
          have a := dj.free hs ρ true
          have b := dj.free hs ρ false
          simp only [upd_same, if_true, Bool.false_eq_true, if_false] at a b
          rw [dh.free h3] at a
          rw [dl.free h1] at b
          exact b.trans a.symm
        subst e
        exact hne (ih lo hi tl th Fl (by omega) (by omega) dl dh)
    intro i j t s F hi hj di dj
    by_cases hi2 : i < 2
    · by_cases hj2 : j < 2
      · rcases (by omega : i = 0 ∨ i = 1) with rfl | rfl <;> rcases (by omega : j = 0 ∨ j = 1) with rfl | rfl
        · rfl
        · have := (di.det .zero).2; have h' := (dj.det .one).2
          rw [this] at h'; have := congrFun h' (fun _ => false); simp at this
        · have := (di.det .one).2; have h' := (dj.det .zero).2
          rw [this] at h'; have := congrFun h' (fun _ => false); simp at this
        · rfl
      · exfalso
        rcases (by omega : i = 0 ∨ i = 1) with rfl | rfl
        · have := (di.det .zero).2; subst this; exact ends j s false hj hj2 dj
        · have := (di.det .one).2; subst this; exact ends j s true hj hj2 dj
    · by_cases hj2 : j < 2
      · exfalso
        rcases (by omega : j = 0 ∨ j = 1) with rfl | rfl
        · have := (dj.det .zero).2; subst this; exact ends i t false hi hi2 di
        · have := (dj.det .one).2; subst this; exact ends i t true hi hi2 di
      · rcases Nat.lt_trichotomy t s with hts | hts | hts
        · exact (nodes i j t s F hi hj di hi2 dj hts).elim
        · subst hts
          generalize hG : F = G at dj
          cases di with
          | zero => omega
          | one => omega
          | @node _ _ lo hi' tl th Fl Fh h h2 hl hh hne h1 h3 hv hS dl dh =>
            cases dj with
            | zero => omega
            | one => omega
            | @node _ _ lo2 hi2' tl2 th2 Fl2 Fh2 g g2 gl gh gne g1 g3 gv gS dl2 dh2 =>
              have el : Fl = Fl2 := by
                funext ρ
                have b := congrFun hG (upd ρ t false)
                simp only [upd_same, Bool.false_eq_true, if_false] at b
                rwa [dl.free h1, dl2.free g1] at b
              have eh : Fh = Fh2 := by
                funext ρ
                have b := congrFun hG (upd ρ t true)
                simp only [upd_same, if_true] at b
                rwa [dh.free h3, dh2.free g3] at b
              subst el eh
              have e1 := ih lo lo2 tl tl2 Fl (by omega) (by omega) dl dl2
              have e2 := ih hi' hi2' th th2 Fh (by omega) (by omega) dh dh2
              subst e1 e2
              exact ho i j _ h2 g2 h g
        · exact (nodes j i s t F hj hi dj hj2 di hts).elim
theorem Den.mono {S' : Nat → Bool} (hs : ∀ x, S x = true → S' x = true) {i t : Nat} {F : Env → Bool} (h : Den S nd i t F) : Den S' nd i t F := by
  induction h with
  | zero => exact .zero
  | one => exact .one
  | node h h2 hl hh hne h1 h3 hv hS _ _ il ih => exact .node h h2 hl hh hne h1 h3 hv (hs _ hS) il ih
theorem Den.all {i t : Nat} {F : Env → Bool} (h : Den S nd i t F) : Den (fun _ => true) nd i t F := h.mono (fun _ _ => rfl)
theorem Den.eq {S' : Nat → Bool} (ho : Once nd) {i j t s : Nat} {F : Env → Bool} (h : Den S nd i t F) (h' : Den S' nd j s F) : i = j := canon ho (max i j + 1) i j t s F (by omega) (by omega) h.all h'.all

/-! ### the numbers of variables from v on -/
def nS (S : Nat → Bool) (v : Nat) : Nat := ((List.range (256 - v)).filter fun x => S (v + x)).length
theorem nS_end (S : Nat → Bool) {v : Nat} (h : 256 ≤ v) : nS S v = 0 := by
  unfold nS
  rw [show 256 - v = 0 by omega]; rfl
theorem nS_step (S : Nat → Bool) {v : Nat} (h : v < 256) : nS S v = (if S v then 1 else 0) + nS S (v + 1) := by
  unfold nS
  rw [show 256 - v = (256 - (v + 1)) + 1 by omega, List.range_succ_eq_map, List.filter_cons, List.filter_map, Nat.add_zero]
  have e : ((fun x => S (v + x)) ∘ Nat.succ) = fun x => S (v + 1 + x) := by
    funext x
    simp only [Function.comp]
    congr 1
    omega
  rw [e]
  split <;> simp <;> omega
theorem nS_le (S : Nat → Bool) {v v' : Nat} (h : v ≤ v') : nS S v' ≤ nS S v := by
  induction h with
  | refl => exact Nat.le_refl _
  | @step m hm ih =>
    show nS S (m + 1) ≤ nS S v
    rcases Nat.lt_or_ge m 256 with h' | h'
    · have := nS_step S h'; omega
    · rw [nS_end S (by omega : 256 ≤ m + 1)]; omega
/-! ### a node of a variable and what becomes of it -/
structure WF (nd : List Nd) : Prop where
  e0 : nd[0]? = some (256, 0, 0)
  e1 : nd[1]? = some (256, 0, 0)
  once : Once nd
  den : ∀ i, i < nd.length → ∃ t F, Den (fun _ => true) nd i t F
theorem lt_of_some {α : Type} {l : List α} {i : Nat} {x : α} (h : l[i]? = some x) : i < l.length := by
  rcases Nat.lt_or_ge i l.length with h' | h'
  · exact h'
  · rw [List.getElem?_eq_none h'] at h; cases h
theorem WF.two (h : WF nd) : 2 ≤ nd.length := by have := lt_of_some h.e1; omega
theorem Den.lt {i t : Nat} {F : Env → Bool} (hw : WF nd) (h : Den S nd i t F) : i < nd.length := by
  have := hw.two
  cases h with
  | zero => omega
  | one => omega
  | node h _ => exact lt_of_some h
/-- the inner node's row -/
theorem Den.row {i t : Nat} {F : Env → Bool} (h : Den S nd i t F) (h2 : 2 ≤ i) : ∃ lo hi tl th Fl Fh, nd[i]? = some (t, lo, hi) ∧ lo < i ∧ hi < i ∧ lo ≠ hi ∧ t < tl ∧ t < th ∧ t < 256 ∧ S t = true ∧ Den S nd lo tl Fl ∧ Den S nd hi th Fh ∧ F = fun ρ => if ρ t then Fh ρ else Fl ρ := by
  cases h with
  | zero => omega
  | one => omega
  | node h h2 hl hh hne h1 h3 hv hS dl dh => exact ⟨_, _, _, _, _, _, h, hl, hh, hne, h1, h3, hv, hS, dl, dh, rfl⟩
theorem Den.ends {i t : Nat} {F : Env → Bool} (h : Den S nd i t F) (h2 : i < 2) : t = 256 ∧ ∀ ρ, F ρ = decide (i = 1) := by
  cases h with
  | zero => exact ⟨rfl, fun _ => rfl⟩
  | one => exact ⟨rfl, fun _ => rfl⟩
  | node _ h2' => omega
/-- a node that is there already -/
theorem mk_old (hw : WF nd) {v lo hi tl th i : Nat} {Fl Fh : Env → Bool} (hl : Den S nd lo tl Fl) (hh : Den S nd hi th Fh) (h1 : v < tl) (h2 : v < th) (hv : v < 256) (hS : S v = true) (h : nd[i]? = some (v, lo, hi)) :
    2 ≤ i ∧ Den S nd i v (fun ρ => if ρ v then Fh ρ else Fl ρ) := by
  have hi2 : 2 ≤ i := by
    rcases (by omega : i = 0 ∨ i = 1 ∨ 2 ≤ i) with rfl | rfl | h'
    · rw [hw.e0] at h; cases h; omega
    · rw [hw.e1] at h; cases h; omega
    · exact h'
  obtain ⟨t, F, d⟩ := hw.den i (lt_of_some h)
  obtain ⟨lo', hi', tl', th', Fl', Fh', hr, r1, r2, r3, r4, r5, r6, _, dl, dh, _⟩ := d.row hi2
  rw [h] at hr
  cases hr
  exact ⟨hi2, .node h hi2 r1 r2 r3 h1 h2 hv hS hl hh⟩
theorem WF.push (hw : WF nd) {v lo hi tl th : Nat} {Fl Fh : Env → Bool} (hl : Den S nd lo tl Fl) (hh : Den S nd hi th Fh) (h1 : v < tl) (h2 : v < th) (hv : v < 256) (hS : S v = true) (hne : lo ≠ hi) (hnew : ∀ i : Nat, nd[i]? ≠ some (v, lo, hi)) :
    WF (nd ++ [(v, lo, hi)]) ∧ Den S (nd ++ [(v, lo, hi)]) nd.length v (fun ρ => if ρ v then Fh ρ else Fl ρ) := by
  have h2' := hw.two
  have hnew' : (nd ++ [(v, lo, hi)])[nd.length]? = some (v, lo, hi) := by rw [List.getElem?_append_right (Nat.le_refl _)]; simp
  have hold : ∀ i, i < nd.length → (nd ++ [(v, lo, hi)])[i]? = nd[i]? := fun i hi => List.getElem?_append_left hi
  have d : Den S (nd ++ [(v, lo, hi)]) nd.length v (fun ρ => if ρ v then Fh ρ else Fl ρ) := .node hnew' h2' (hl.lt hw) (hh.lt hw) hne h1 h2 hv hS hl.append hh.append
  refine ⟨⟨by rw [hold _ (by omega)]; exact hw.e0, by rw [hold _ (by omega)]; exact hw.e1, fun i j x hi hj gi gj => ?_, fun i hi => ?_⟩, d⟩
  · have li := lt_of_some gi
    have lj := lt_of_some gj
    simp only [List.length_append, List.length_singleton] at li lj
    rcases Nat.lt_or_ge i nd.length with a | a <;> rcases Nat.lt_or_ge j nd.length with b | b
    · rw [hold _ a] at gi; rw [hold _ b] at gj; exact hw.once i j x hi hj gi gj
    · obtain rfl : j = nd.length := by omega
      rw [hnew'] at gj; cases gj; rw [hold _ a] at gi; exact absurd gi (hnew i)
    · obtain rfl : i = nd.length := by omega
      rw [hnew'] at gi; cases gi; rw [hold _ b] at gj; exact absurd gj (hnew j)
    · omega
  · simp only [List.length_append, List.length_singleton] at hi
    rcases Nat.lt_or_ge i nd.length with a | a
    · obtain ⟨t, F, d'⟩ := hw.den i a
      exact ⟨t, F, d'.append⟩
    · obtain rfl : i = nd.length := by omega
      exact ⟨_, _, d.all⟩
/-! ### what becomes of a function when a variable has a value -/
def cut (nd : List Nd) (i v : Nat) (b : Bool) : Nat := match nd[i]? with | some (v', lo, hi) => if v' ≠ v then i else if b then hi else lo | none => i
theorem cut_den (hw : WF nd) {i t v : Nat} {F : Env → Bool} (h : Den S nd i t F) (hv : v ≤ t) (hv2 : v < 256) (b : Bool) :
    ∃ t', v < t' ∧ Den S nd (cut nd i v b) t' (fun ρ => F (upd ρ v b)) := by
  by_cases hi : i < 2
  · obtain ⟨rfl, hF⟩ := h.ends hi
    have e : (fun ρ => F (upd ρ v b)) = F := by funext ρ; rw [hF, hF]
    have ec : cut nd i v b = i := by
      unfold cut
      rcases (by omega : i = 0 ∨ i = 1) with rfl | rfl
      · rw [hw.e0]; simp only; rw [if_pos (by omega)]
      · rw [hw.e1]; simp only; rw [if_pos (by omega)]
    rw [e, ec]
    exact ⟨256, hv2, h⟩
  · obtain ⟨lo, hi', tl, th, Fl, Fh, hr, r1, r2, r3, r4, r5, r6, r7, dl, dh, rfl⟩ := h.row (by omega)
    unfold cut
    rw [hr]
    simp only
    by_cases ht : t = v
    · subst ht
      rw [if_neg (by simp)]
      cases b
      · simp only [upd_same, Bool.false_eq_true, if_false]
        refine ⟨tl, r4, ?_⟩
        have e : (fun ρ => Fl (upd ρ t false)) = Fl := by funext ρ; exact dl.free r4 ρ false
        rw [e]; exact dl
      · simp only [upd_same, if_true]
        refine ⟨th, r5, ?_⟩
        have e : (fun ρ => Fh (upd ρ t true)) = Fh := by funext ρ; exact dh.free r5 ρ true
        rw [e]; exact dh
    · rw [if_pos ht]
      refine ⟨t, by omega, ?_⟩
      have e : (fun ρ : Env => if (upd ρ v b) t then Fh (upd ρ v b) else Fl (upd ρ v b)) = fun ρ => if ρ t then Fh ρ else Fl ρ := by
        funext ρ
        rw [upd_other _ _ (by omega), dh.free (by omega), dl.free (by omega)]
      rw [e]; exact h
theorem shannon (F : Env → Bool) (v : Nat) (ρ : Env) : F ρ = if ρ v then F (upd ρ v true) else F (upd ρ v false) := by
  have e : upd ρ v (ρ v) = ρ := by
    funext x
    unfold upd
    split
    · rename_i h; rw [h]
    · rfl
  cases h : ρ v
  · rw [h] at e; simp [e]
  · rw [h] at e; simp [e]
end Go.Proofs.YtgfjdkkfgclhjaaGreat.Bd
/- Some and all over variables, in plain words. No program is in sight. -/
namespace Go.Proofs.YtgfjdkkfgclhjaaGreat.Bd

/-- F with both values of x, joined -/
def quant (J : Bool → Bool → Bool) (x : Nat) (F : Env → Bool) : Env → Bool := fun ρ => J (F (upd ρ x false)) (F (upd ρ x true))
/-- .. of the variables of O, n of them from a on -/
def ovF (J : Bool → Bool → Bool) (O : Nat → Bool) : Nat → Nat → (Env → Bool) → Env → Bool
  | _, 0, F => F
  | a, n + 1, F => ovF J O (a + 1) n (if O a then quant J a F else F)
def overT (J : Bool → Bool → Bool) (O : Nat → Bool) (F : Env → Bool) : Env → Bool := ovF J O 0 256 F
/-- what is asked of J -/
structure Joins (J : Bool → Bool → Bool) : Prop where
  idem : ∀ a, J a a = a
  swap : ∀ a b c d, J (J a b) (J c d) = J (J a c) (J b d)
theorem joins_or : Joins (fun a b => a || b) := ⟨by decide, by decide⟩
theorem joins_and : Joins (fun a b => a && b) := ⟨by decide, by decide⟩
theorem upd_swap (ρ : Env) {x y : Nat} (a b : Bool) (h : x ≠ y) : upd (upd ρ x a) y b = upd (upd ρ y b) x a := by
  funext z
  unfold upd
  by_cases h1 : z = y
  · subst h1
    rw [if_pos rfl, if_neg (Ne.symm h), if_pos rfl]
  · rw [if_neg h1]
    by_cases h2 : z = x
    · rw [if_pos h2, if_pos h2]
    · rw [if_neg h2, if_neg h2, if_neg h1]
theorem upd_twice (ρ : Env) (x : Nat) (a b : Bool) : upd (upd ρ x a) x b = upd ρ x b := by
  funext z
  unfold upd
  by_cases h : z = x <;> simp [h]
section
variable {J : Bool → Bool → Bool} (hJ : Joins J)
include hJ
theorem quant_free {x : Nat} {F : Env → Bool} (h : ∀ ρ b, F (upd ρ x b) = F ρ) : quant J x F = F := by
  funext ρ
  unfold quant
  rw [h, h, hJ.idem]
theorem quant_join (x : Nat) (G H : Env → Bool) : quant J x (fun ρ => J (G ρ) (H ρ)) = fun ρ => J (quant J x G ρ) (quant J x H ρ) := by
  funext ρ
  unfold quant
  exact hJ.swap _ _ _ _
omit hJ in
theorem quant_if {x v : Nat} (h : x ≠ v) (G H : Env → Bool) : quant J x (fun ρ => if ρ v then H ρ else G ρ) = fun ρ => if ρ v then quant J x H ρ else quant J x G ρ := by
  funext ρ
  unfold quant
  simp only [upd_other _ _ (Ne.symm h)]
  cases ρ v <;> simp
theorem quant_same (x : Nat) (F : Env → Bool) : quant J x (quant J x F) = quant J x F := by
  funext ρ
  unfold quant
  simp only [upd_twice, hJ.idem]
theorem quant_comm (x y : Nat) (F : Env → Bool) : quant J x (quant J y F) = quant J y (quant J x F) := by
  by_cases h : x = y
  · subst h; rfl
  · funext ρ
    unfold quant
    rw [hJ.swap]
    simp only [upd_swap ρ _ _ h]
theorem ovF_free {O : Nat → Bool} : ∀ (n a : Nat) (F : Env → Bool), (∀ x, a ≤ x → x < a + n → ∀ ρ b, F (upd ρ x b) = F ρ) → ovF J O a n F = F := by
  intro n
  induction n with
  | zero => intro a F _; rfl
  | succ n ih =>
    intro a F h
    unfold ovF
    have e : (if O a then quant J a F else F) = F := by
      split
      · exact quant_free hJ (h a (Nat.le_refl _) (by omega))
      · rfl
    rw [e]
    exact ih (a + 1) F (fun x h1 h2 => h x (by omega) (by omega))
theorem ovF_join {O : Nat → Bool} : ∀ (n a : Nat) (G H : Env → Bool), ovF J O a n (fun ρ => J (G ρ) (H ρ)) = fun ρ => J (ovF J O a n G ρ) (ovF J O a n H ρ) := by
  intro n
  induction n with
  | zero => intro a G H; rfl
  | succ n ih =>
    intro a G H
    unfold ovF
    by_cases h : O a = true
    · rw [if_pos h, if_pos h, if_pos h, quant_join hJ, ih]
    · rw [if_neg h, if_neg h, if_neg h, ih]
omit hJ in
theorem ovF_if {O : Nat → Bool} {v : Nat} : ∀ (n a : Nat) (G H : Env → Bool), (v < a ∨ a + n ≤ v) → ovF J O a n (fun ρ => if ρ v then H ρ else G ρ) = fun ρ => if ρ v then ovF J O a n H ρ else ovF J O a n G ρ := by
  intro n
  induction n with
  | zero => intro a G H _; rfl
  | succ n ih =>
    intro a G H h
    unfold ovF
    by_cases h1 : O a = true
    · rw [if_pos h1, if_pos h1, if_pos h1, quant_if (by omega), ih _ _ _ (by omega)]
    · rw [if_neg h1, if_neg h1, if_neg h1, ih _ _ _ (by omega)]
omit hJ in
theorem ovF_add {O : Nat → Bool} : ∀ (m n a : Nat) (F : Env → Bool), ovF J O a (m + n) F = ovF J O (a + m) n (ovF J O a m F) := by
  intro m
  induction m with
  | zero => intro n a F; simp [ovF]
  | succ m ih =>
    intro n a F
    have e1 : ovF J O a (m + 1 + n) F = ovF J O (a + 1) (m + n) (if O a then quant J a F else F) := by rw [show m + 1 + n = (m + n) + 1 by omega]; rfl
    have e2 : ovF J O a (m + 1) F = ovF J O (a + 1) m (if O a then quant J a F else F) := rfl
    rw [e1, e2, ih, show a + 1 + m = a + (m + 1) by omega]
theorem overT_free {O : Nat → Bool} {F : Env → Bool} (h : ∀ ρ ρ' : Env, F ρ = F ρ') : overT J O F = F := ovF_free hJ 256 0 F (fun _ _ _ _ _ => h _ _)
/-- .. at a node whose halves stand behind v -/
theorem overT_node {O : Nat → Bool} {v : Nat} (hv : v < 256) {Fl Fh : Env → Bool} (hl : ∀ ρ ρ' : Env, (∀ x, v < x → x < 256 → ρ x = ρ' x) → Fl ρ = Fl ρ') (hh : ∀ ρ ρ' : Env, (∀ x, v < x → x < 256 → ρ x = ρ' x) → Fh ρ = Fh ρ') :
    overT J O (fun ρ => if ρ v then Fh ρ else Fl ρ) = if O v then fun ρ => J (overT J O Fl ρ) (overT J O Fh ρ) else fun ρ => if ρ v then overT J O Fh ρ else overT J O Fl ρ := by
  have fl : ∀ x, x ≤ v → ∀ ρ b, Fl (upd ρ x b) = Fl ρ := fun x hx ρ b => hl _ _ (fun y h1 h2 => upd_other _ _ (by omega))
  have fh : ∀ x, x ≤ v → ∀ ρ b, Fh (upd ρ x b) = Fh ρ := fun x hx ρ b => hh _ _ (fun y h1 h2 => upd_other _ _ (by omega))
  have sp : ∀ G : Env → Bool, overT J O G = ovF J O (v + 1) (255 - v) (ovF J O v 1 (ovF J O 0 v G)) := by
    intro G
    have a1 := ovF_add (J := J) (O := O) v (1 + (255 - v)) 0 G
    have a2 := ovF_add (J := J) (O := O) 1 (255 - v) v (ovF J O 0 v G)
    unfold overT
    rw [show 256 = v + (1 + (255 - v)) by omega, a1, Nat.zero_add, a2]
  have one : ∀ G : Env → Bool, ovF J O v 1 G = if O v then quant J v G else G := fun G => rfl
  have kl : ovF J O 0 v Fl = Fl := ovF_free hJ v 0 Fl (fun x _ h2 => fl x (by omega))
  have kh : ovF J O 0 v Fh = Fh := ovF_free hJ v 0 Fh (fun x _ h2 => fh x (by omega))
  have tl : overT J O Fl = ovF J O (v + 1) (255 - v) Fl := by
    rw [sp, kl, one]
    split
    · rw [quant_free hJ (fl v (Nat.le_refl _))]
    · rfl
  have th : overT J O Fh = ovF J O (v + 1) (255 - v) Fh := by
    rw [sp, kh, one]
    split
    · rw [quant_free hJ (fh v (Nat.le_refl _))]
    · rfl
  rw [sp, ovF_if v 0 _ _ (.inr (by omega)), kl, kh, one, tl, th]
  by_cases h : O v = true
  · rw [if_pos h, if_pos h]
    have e : quant J v (fun ρ => if ρ v then Fh ρ else Fl ρ) = fun ρ => J (Fl ρ) (Fh ρ) := by
      funext ρ
      unfold quant
      simp only [upd_same, Bool.false_eq_true, if_false, if_true, fl v (Nat.le_refl _), fh v (Nat.le_refl _)]
    rw [e, ovF_join hJ]
  · rw [if_neg h, if_neg h, ovF_if _ _ _ _ (.inl (by omega))]
/-- one variable more -/
theorem ovF_quant {O : Nat → Bool} (x : Nat) : ∀ (n a : Nat) (F : Env → Bool), ovF J O a n (quant J x F) = quant J x (ovF J O a n F) := by
  intro n
  induction n with
  | zero => intro a F; rfl
  | succ n ih =>
    intro a F
    unfold ovF
    by_cases h : O a = true
    · rw [if_pos h, if_pos h, quant_comm hJ, ih]
    · rw [if_neg h, if_neg h, ih]
omit hJ in
theorem ovF_out {O O' : Nat → Bool} : ∀ (n a : Nat) (F : Env → Bool), (∀ y, a ≤ y → y < a + n → O y = O' y) → ovF J O a n F = ovF J O' a n F := by
  intro n
  induction n with
  | zero => intro a F _; rfl
  | succ n ih =>
    intro a F h
    unfold ovF
    rw [h a (Nat.le_refl _) (by omega), ih _ _ (fun y h1 h2 => h y (by omega) (by omega))]
theorem overT_put {O : Nat → Bool} {x : Nat} (hx : x < 256) (F : Env → Bool) : overT J (fun y => decide (y = x) || O y) F = quant J x (overT J O F) := by
  have sp : ∀ (O : Nat → Bool) (G : Env → Bool), overT J O G = ovF J O (x + 1) (255 - x) (ovF J O x 1 (ovF J O 0 x G)) := by
    intro O G
    have a1 := ovF_add (J := J) (O := O) x (1 + (255 - x)) 0 G
    have a2 := ovF_add (J := J) (O := O) 1 (255 - x) x (ovF J O 0 x G)
    unfold overT
    rw [show 256 = x + (1 + (255 - x)) by omega, a1, Nat.zero_add, a2]
  rw [sp, sp O F]
  have one : ∀ (O : Nat → Bool) (G : Env → Bool), ovF J O x 1 G = if O x then quant J x G else G := fun _ G => rfl
  rw [ovF_out (O := fun y => decide (y = x) || O y) (O' := O) x 0 F (fun y _ h => by simp; omega), ovF_out (O := fun y => decide (y = x) || O y) (O' := O) (255 - x) (x + 1) _ (fun y h _ => by simp; omega), one, one]
  simp only [decide_true, Bool.true_or, if_true]
  rw [ovF_quant hJ]
  split
  · rw [ovF_quant hJ, quant_same hJ]
  · rfl
omit hJ in
theorem overT_none (F : Env → Bool) : overT J (fun _ => false) F = F := by
  have : ∀ n a, ovF J (fun _ => false) a n F = F := by
    intro n
    induction n with
    | zero => intro a; rfl
    | succ n ih => intro a; unfold ovF; simp [ih]
  exact this 256 0
end
end Go.Proofs.YtgfjdkkfgclhjaaGreat.Bd
/- Functions of a few variables as tables, in plain Lean: what the document's tables say. No program is in sight. -/
namespace Go.Proofs.YtgfjdkkfgclhjaaGreat.Bd

/-- the value of a variable in the i-th row -/
def rowB (n i v : Nat) : Bool := i.testBit (n - 1 - v)
/-- the values of the variables in the i-th row -/
def rowE (n i : Nat) : Env := fun v => decide (v < n) && rowB n i v
/-- the row that is the i-th one, but with that value of a variable -/
def setR (n i v : Nat) (b : Bool) : Nat := if rowB n i v = b then i else i ^^^ 2 ^ (n - 1 - v)
theorem setR_lt {n i v : Nat} (b : Bool) (hv : v < n) (hi : i < 2 ^ n) : setR n i v b < 2 ^ n := by
  unfold setR
  split
  · exact hi
  · exact Nat.xor_lt_two_pow hi (Nat.pow_lt_pow_right (by omega) (by omega))
theorem rowB_set {n i v x : Nat} (b : Bool) (hv : v < n) (hx : x < n) : rowB n (setR n i v b) x = if x = v then b else rowB n i x := by
  unfold setR rowB
  by_cases h : i.testBit (n - 1 - v) = b
  · rw [if_pos h]
    by_cases hx : x = v
    · rw [if_pos hx, hx, h]
    · rw [if_neg hx]
  · rw [if_neg h, Nat.testBit_xor, Nat.testBit_two_pow]
    by_cases hxv : x = v
    · rw [if_pos hxv, hxv, decide_eq_true rfl]
      cases hc : i.testBit (n - 1 - v) <;> cases b <;> simp_all
    · rw [if_neg hxv, decide_eq_false (by omega), Bool.xor_false]
theorem rowE_set {n i v : Nat} (b : Bool) (hv : v < n) : rowE n (setR n i v b) = upd (rowE n i) v b := by
  funext x
  unfold rowE upd
  by_cases hx : x < n
  · rw [rowB_set b hv hx]
    simp only [decide_eq_true hx, Bool.true_and]
  · rw [if_neg (by omega), decide_eq_false hx, Bool.false_and]
    show false = (decide (x < n) && rowB n i x)
    rw [decide_eq_false hx]
    rfl
/-- every values of the variables are some row's -/
theorem row_of (n : Nat) (ρ : Env) : ∀ m, m ≤ n → ∃ i, i < 2 ^ n ∧ ∀ v, v < m → rowE n i v = ρ v
  | 0, _ => ⟨0, Nat.two_pow_pos n, fun v h => absurd h (Nat.not_lt_zero v)⟩
  | m + 1, h => by
    obtain ⟨i, hi, hr⟩ := row_of n ρ m (by omega)
    refine ⟨setR n i m (ρ m), setR_lt _ (by omega) hi, fun v hv => ?_⟩
    rw [rowE_set _ (by omega)]
    unfold upd
    by_cases hvm : v = m
    · rw [if_pos hvm, hvm]
    · rw [if_neg hvm, hr v (by omega)]
/-- a function that hangs on the first n variables alone -/
def Hn (n : Nat) (F : Env → Bool) : Prop := ∀ ρ σ : Env, (∀ v, v < n → ρ v = σ v) → F ρ = F σ
def tab (n : Nat) (F : Env → Bool) : List Bool := (List.range (2 ^ n)).map fun i => F (rowE n i)
theorem tab_len (n : Nat) (F : Env → Bool) : (tab n F).length = 2 ^ n := by simp [tab]
theorem tab_at {n i : Nat} (F : Env → Bool) (h : i < 2 ^ n) : (tab n F)[i]? = some (F (rowE n i)) := by
  unfold tab
  rw [List.getElem?_map, List.getElem?_range h]
  rfl
theorem tab_getD {n i : Nat} (F : Env → Bool) (h : i < 2 ^ n) : (tab n F).getD i false = F (rowE n i) := by
  rw [List.getD_eq_getElem?_getD, tab_at F h]
  rfl
theorem tab_inj {n : Nat} {F G : Env → Bool} (hF : Hn n F) (hG : Hn n G) (h : tab n F = tab n G) : F = G := by
  funext ρ
  obtain ⟨i, hi, hr⟩ := row_of n ρ n (Nat.le_refl _)
  have h1 := tab_at F hi
  rw [h, tab_at G hi] at h1
  rw [hF ρ (rowE n i) (fun v hv => (hr v hv).symm), hG ρ (rowE n i) (fun v hv => (hr v hv).symm)]
  exact (Option.some.inj h1).symm
/-! ### what the document does with tables -/
def ofR (m : Nat) (f : Nat → Bool) : List Bool := (List.range m).map f
theorem ofR_len (m : Nat) (f : Nat → Bool) : (ofR m f).length = m := by simp [ofR]
theorem ofR_tab {n : Nat} {f : Nat → Bool} {F : Env → Bool} (h : ∀ i, i < 2 ^ n → f i = F (rowE n i)) : ofR (2 ^ n) f = tab n F := by
  unfold ofR tab
  exact List.map_congr_left (fun i hi => h i (List.mem_range.1 hi))
def allR (n : Nat) (b : Bool) : List Bool := ofR (2 ^ n) fun _ => b
theorem all_tab (n : Nat) (b : Bool) : allR n b = tab n fun _ => b := ofR_tab fun _ _ => rfl
def varR (n v : Nat) : List Bool := ofR (2 ^ n) fun i => rowB n i v
theorem var_tab {n v : Nat} (hv : v < n) : varR n v = tab n fun ρ => ρ v := ofR_tab fun i _ => by unfold rowE; rw [decide_eq_true hv, Bool.true_and]
def iteR (f g h : List Bool) : List Bool := ofR f.length fun i => if f.getD i false then g.getD i false else h.getD i false
theorem ite_tab (n : Nat) (F G H : Env → Bool) : iteR (tab n F) (tab n G) (tab n H) = tab n fun ρ => if F ρ then G ρ else H ρ := by
  unfold iteR
  rw [tab_len]
  exact ofR_tab fun i hi => by rw [tab_getD F hi, tab_getD G hi, tab_getD H hi]
def restR (n : Nat) (f : List Bool) (v : Nat) (b : Bool) : List Bool := ofR f.length fun i => f.getD (setR n i v b) false
theorem rest_len (n : Nat) (f : List Bool) (v : Nat) (b : Bool) : (restR n f v b).length = f.length := ofR_len _ _
theorem rest_tab {n v : Nat} (F : Env → Bool) (b : Bool) (hv : v < n) : restR n (tab n F) v b = tab n fun ρ => F (upd ρ v b) := by
  unfold restR
  rw [tab_len]
  exact ofR_tab fun i hi => by rw [tab_getD F (setR_lt b hv hi), rowE_set b hv]
def jn (all : Bool) : Bool → Bool → Bool := fun a b => a && b || !all && (a || b)
theorem jn_true : jn true = fun a b => a && b := by funext a b; cases a <;> cases b <;> rfl
theorem jn_false : jn false = fun a b => a || b := by funext a b; cases a <;> cases b <;> rfl
theorem joins_jn (all : Bool) : Joins (jn all) := by cases all; rw [jn_false]; exact joins_or; rw [jn_true]; exact joins_and
def ovR1 (n : Nat) (all : Bool) (f : List Bool) (x : Nat) : List Bool := ofR f.length fun k => jn all ((restR n f x false).getD k false) ((restR n f x true).getD k false)
theorem ov1_tab {n x : Nat} (all : Bool) (F : Env → Bool) (hx : x < n) : ovR1 n all (tab n F) x = tab n (quant (jn all) x F) := by
  unfold ovR1
  rw [tab_len, rest_tab F false hx, rest_tab F true hx]
  exact ofR_tab fun i hi => by rw [tab_getD _ hi, tab_getD _ hi]; rfl
def ovR (n : Nat) (all : Bool) (f : List Bool) (l : List Nat) : List Bool := l.foldl (ovR1 n all) f
theorem ovR_len (n : Nat) (all : Bool) : ∀ (l : List Nat) (f : List Bool), (ovR n all f l).length = f.length
  | [], _ => rfl
  | x :: xs, f => by
    show (ovR n all (ovR1 n all f x) xs).length = _
    rw [ovR_len n all xs]
    exact ofR_len _ _
theorem ovR_fold {n : Nat} (all : Bool) : ∀ (l : List Nat) (F : Env → Bool), (∀ x ∈ l, x < n) → ovR n all (tab n F) l = tab n (l.foldl (fun G x => quant (jn all) x G) F)
  | [], _, _ => rfl
  | x :: xs, F, h => by
    show ovR n all (ovR1 n all (tab n F) x) xs = _
    rw [ov1_tab all F (h x List.mem_cons_self), ovR_fold all xs _ (fun y hy => h y (List.mem_cons_of_mem _ hy))]
    rfl
theorem quant_fold (all : Bool) (F : Env → Bool) : ∀ (l : List Nat), (∀ x ∈ l, x < 256) → (l.reverse.foldl (fun G x => quant (jn all) x G) F) = overT (jn all) (fun y => decide (y ∈ l)) F
  | [], _ => by
    have : (fun y : Nat => decide (y ∈ ([] : List Nat))) = fun _ => false := by funext y; simp
    rw [this, overT_none]
    rfl
  | x :: xs, h => by
    rw [List.reverse_cons, List.foldl_append, quant_fold all F xs (fun y hy => h y (List.mem_cons_of_mem _ hy))]
    show quant (jn all) x _ = _
    rw [← overT_put (joins_jn all) (h x List.mem_cons_self)]
    congr 1
    funext y
    simp
theorem ov_tab {n : Nat} (hn : n ≤ 256) (all : Bool) (l : List Nat) (F : Env → Bool) (h : ∀ x ∈ l, x < n) : ovR n all (tab n F) l = tab n (overT (jn all) (fun y => decide (y ∈ l)) F) := by
  rw [ovR_fold all l F h]
  congr 1
  have h1 := quant_fold all F l.reverse (fun x hx => by have := h x (List.mem_reverse.1 hx); omega)
  rw [List.reverse_reverse] at h1
  rw [h1]
  congr 1
  funext y
  simp
/-- the row that is looked at under other names -/
def renRow (n i : Nat) : List (Nat × Nat) → Nat → Nat
  | [], r => r
  | p :: ps, r => renRow n i ps (setR n r p.1 (rowB n i p.2))
def renR (n : Nat) (f : List Bool) (ps : List (Nat × Nat)) : List Bool := ofR f.length fun i => f.getD (renRow n i ps i) false
theorem renRow_lt {n i : Nat} : ∀ (ps : List (Nat × Nat)) (r : Nat), (∀ p ∈ ps, p.1 < n) → r < 2 ^ n → renRow n i ps r < 2 ^ n
  | [], _, _, h => h
  | p :: ps, r, hp, h => renRow_lt ps _ (fun q hq => hp q (List.mem_cons_of_mem _ hq)) (setR_lt _ (hp p List.mem_cons_self) h)
def renE (ps : List (Nat × Nat)) (σ ρ : Env) : Env := ps.foldl (fun τ p => upd τ p.1 (σ p.2)) ρ
theorem renRow_env {n i : Nat} : ∀ (ps : List (Nat × Nat)) (r : Nat), (∀ p ∈ ps, p.1 < n ∧ p.2 < n) → rowE n (renRow n i ps r) = renE ps (rowE n i) (rowE n r)
  | [], _, _ => rfl
  | p :: ps, r, hp => by
    obtain ⟨h1, h2⟩ := hp p List.mem_cons_self
    rw [renRow, renRow_env ps _ (fun q hq => hp q (List.mem_cons_of_mem _ hq)), rowE_set _ h1]
    show _ = renE ps (rowE n i) (upd (rowE n r) p.1 (rowE n i p.2))
    congr 2
    unfold rowE
    rw [decide_eq_true h2, Bool.true_and]
theorem ren_tab {n : Nat} (F : Env → Bool) {ps : List (Nat × Nat)} (hp : ∀ p ∈ ps, p.1 < n ∧ p.2 < n) : renR n (tab n F) ps = tab n fun ρ => F (renE ps ρ ρ) := by
  unfold renR
  rw [tab_len]
  exact ofR_tab fun i hi => by rw [tab_getD F (renRow_lt ps i (fun p h => (hp p h).1) hi), renRow_env ps i hp]
/-! ### texts -/
def ch (b : Bool) : UInt8 := if b then 49 else 48
theorem ch_inj {a b : Bool} (h : ch a = ch b) : a = b := by revert h; revert a b; decide
def txt (T : List Bool) : ByteArray := ⟨(T.map ch).toArray⟩
theorem map_ch : ∀ {T U : List Bool}, T.map ch = U.map ch → T = U
  | [], [], _ => rfl
  | [], _ :: _, h => by simp at h
  | _ :: _, [], h => by simp at h
  | a :: tl, b :: bs, h => by
    rw [List.map_cons, List.map_cons] at h
    injection h with h1 h2
    rw [ch_inj h1, map_ch h2]
theorem txt_inj {T U : List Bool} (h : txt T = txt U) : T = U := by
  unfold txt at h
  have h1 : (T.map ch).toArray = (U.map ch).toArray := congrArg ByteArray.data h
  exact map_ch (by simpa using congrArg Array.toList h1)
end Go.Proofs.YtgfjdkkfgclhjaaGreat.Bd
/- Small words for walks: regions that draw their order over the class of worlds 'Below'. -/
namespace Go.Proofs.YtgfjdkkfgclhjaaGreat
open Go.RowKit

theorem hide {p : Prop} (h : p) : Hid p := h
/-- Every world that is 'Below w', and no other, is 'lat w x' for some x. -/
noncomputable def lat (w x : World) : World := by classical exact if Below w.heap.size w x then x else w
theorem lat_below (w x : World) : Below w.heap.size w (lat w x) := by
  unfold lat
  split
  · assumption
  · exact Below.refl _ _
theorem lat_of {w x : World} (h : Below w.heap.size w x) : x = lat w x := by
  unfold lat
  rw [if_pos h]
theorem below_wide {w w1 w2 : World} (h : Below w.heap.size w w1) (h2 : Below w1.heap.size w1 w2) : Below w.heap.size w w2 := h.trans (h2.mono h.size)
theorem lat_cell {w : World} {a : Addr} {v : Value} (h : w.cell? a = some v) (x : World) : (lat w x).cell? a = some v := by
  have hb := lat_below w x
  have hlt : a.block < w.heap.size := by
    rcases Nat.lt_or_ge a.block w.heap.size with h1 | h1
    · exact h1
    · exfalso
      unfold World.cell? at h
      split at h <;> simp_all
  rw [hb.cell hlt]; exact h

theorem bne_t {a b : Int} (h : (a != b) = true) : ¬ a = b := by simpa using h
theorem bne_f {a b : Int} (h : (a != b) = false) : a = b := by simpa using h
theorem beq_t {a b : Int} (h : (a == b) = true) : a = b := by simpa using h
theorem beq_f {a b : Int} (h : (a == b) = false) : ¬ a = b := by simpa using h

theorem lt_of_cell {w : World} {a : Addr} {v : Value} (h : w.cell? a = some v) : a.block < w.heap.size := by
  rcases Nat.lt_or_ge a.block w.heap.size with h1 | h1
  · exact h1
  · exfalso
    unfold World.cell? at h
    split at h <;> simp_all
theorem cellB {W w1 : World} {a : Addr} {v : Value} (hb : Below W.heap.size W w1) (h : W.cell? a = some v) : w1.cell? a = some v := by
  rw [hb.cell (lt_of_cell h)]; exact h

theorem wp_region_lat {P : Program} {id : Nat} {Q : Exit → Act → World → Prop} {a : Act} {w : World} {l : List Oper} (hm : P.follows .mixedOrders = true) (hB : Region.lexB .any l.toArray = true)
    (h : wpQuiet P l.toArray (fun w' => ∃ x, w' = lat w x) (fun a' => ∀ w', (∃ x, w' = lat w x) → Q .normal a' w') l a) : (Code.region id l.toArray true).wp P Q a w :=
  wp_region_quiet (C := fun w' => ∃ x, w' = lat w x) hm hB ⟨_, lat_of ((Below.refl _ w).drew)⟩ (by simpa using h)

theorem calls_lat {P : Program} {f : FuncId} {args : Array Value} {w x : World} {v : Value}
    (h : Calls P f args (lat w x) fun e w' => e = .returned v ∧ Below (lat w x).heap.size (lat w x) w') : Calls P f args (lat w x) fun e w'' => e = .returned v ∧ ∃ y, w'' = lat w y :=
  h.mono fun _ _ ⟨he, hb⟩ => ⟨he, _, lat_of (below_wide (lat_below w x) hb)⟩
theorem calls_lat_same {P : Program} {f : FuncId} {args : Array Value} {w x : World} {v : Value}
    (h : Calls P f args (lat w x) fun e w' => e = .returned v ∧ lat w x = w') : Calls P f args (lat w x) fun e w'' => e = .returned v ∧ ∃ y, w'' = lat w y :=
  h.mono fun _ _ ⟨he, hb⟩ => ⟨he, x, hb.symm⟩
/-- A slice (nil let in) that reads as the cells xs. -/
def Src (w : World) (A : Option Addr) (m c size : Nat) (xs : List Value) : Prop :=
  xs.length = m * size ∧ ((A = none ∧ m = 0 ∧ c = 0) ∨ ∃ ad, A = some ad ∧ ∀ j u, xs[j]? = some u → w.cell? (ad.add j) = some u)
theorem Src.below {w w' : World} {A : Option Addr} {m c size : Nat} {xs : List Value} (h : Src w A m c size xs) (hb : Below w.heap.size w w') : Src w' A m c size xs := by
  obtain ⟨h1, h2 | ⟨ad, h2, h3⟩⟩ := h
  · exact ⟨h1, .inl h2⟩
  · exact ⟨h1, .inr ⟨ad, h2, fun j u hu => cellB hb (h3 j u hu)⟩⟩
theorem app_src {P : Program} {w : World} {ops : Array Oper} {rest : List Oper} {o : Oper} {a : Act} {Q : Exit → Act → World → Prop} (hgd : o.guard = none) (s x : Operand) (t : TypeId)
    (ho : o.op = .call { callee := .builtin .append, args := #[s, x], argTypes := #[t, t] })
    (base : Nat) (e : TypeId) (i : TypeInfo) (z : Value) (size bytes : Nat) (ht : P.underlying t = some (.slice e)) (hi : P.info? e = some i) (hz : i.zero = some z)
    (hsize : i.size = size) (hby : i.bytes = bytes) (hzs : z.cells.size = size) (hsz : 0 < size)
    (v : Value) (n : Nat) (xs : List Value) (hs : a.eval s = v) (hown : w.ownsRow base e size v n xs)
    (A : Option Addr) (m c : Nat) (news : List Value) (hx : a.eval x = .slice A m c) (hsrc : Src w A m c size news) (h1 : ∀ u ∈ news, u.oneCell' = true)
    (h63 : n + m ≤ maxLen) (hbytes : (n + m) * bytes ≤ 140737488355328) (hbase : base ≤ w.heap.size)
    (h : ∀ v' w', w'.ownsRow base e size v' (n + m) (xs ++ news) → w.grownBy w' v.ownBlock → wpList P ops Q rest (a.put o.dst v') w') : wpList P ops Q (o :: rest) a w := by
  obtain ⟨hl, ⟨rfl, rfl, rfl⟩ | ⟨ad, rfl, hc⟩⟩ := hsrc
  · have hn : news = [] := List.eq_nil_of_length_eq_zero (by simpa using hl)
    subst hn
    exact wpList_append_own_none hgd s x t ho base e i size ht hi v n xs hs hown hx (h v w (by simpa using hown) (World.grownBy.refl w _))
  · exact wpList_append_own w hgd s x t ho base e i z size bytes ht hi hz hsize hby hzs hsz v n xs hs hown ad m c news hx hl hc h1 h63 hbytes hbase (fun v' w' h2 h3 _ => h v' w' h2 h3)
theorem lt_heap {w : World} {g : Nat} {o : Obj} (h : w.heap[g]? = some o) : g < w.heap.size := by
  rcases Nat.lt_or_ge g w.heap.size with h1 | h1
  · exact h1
  · rw [Array.getElem?_eq_none h1] at h; cases h
theorem heapB {W w1 : World} {g : Nat} {o : Obj} (hb : Below W.heap.size W w1) (h : W.heap[g]? = some o) : w1.heap[g]? = some o := (hb.block g (lt_heap h)).trans h
theorem cell_heap {w : World} {g j : Nat} {cur : Array Value} {t : TypeId} {u : Value} (h : w.heap[g]? = some (.cells cur t (0, 0))) (hj : cur[j]? = some u) : w.cell? ⟨g, j, none⟩ = some u := by
  simp [World.cell?, h, hj]
theorem frozen_heap {w : World} {g j : Nat} {cur : Array Value} {t : TypeId} (h : w.heap[g]? = some (.cells cur t (0, 0))) : w.frozen? ⟨g, j, none⟩ = false := by
  simp [World.frozen?, h]
theorem heap_far {w : World} {g : Nat} {o : Obj} {p : Addr} {u : Value} (h : w.heap[g]? = some o) (hp : g ≠ p.block) : (w.setCell p u).heap[g]? = some o := (Below.heap_setCell w p u g hp).trans h
theorem heap_set {w : World} {g j : Nat} {cur : Array Value} {t : TypeId} {u : Value} (h : w.heap[g]? = some (.cells cur t (0, 0))) : (w.setCell ⟨g, j, none⟩ u).heap[g]? = some (.cells (cur.setIfInBounds j u) t (0, 0)) := by
  simp [World.setCell, Array.getElem?_modify, h]
theorem heap_ne {w : World} {g g' : Nat} {cur cur' : Array Value} {t t' : TypeId} (h : w.heap[g]? = some (.cells cur t (0, 0))) (h' : w.heap[g']? = some (.cells cur' t' (0, 0))) (hne : t ≠ t') : g ≠ g' := by
  rintro rfl
  rw [h] at h'
  injection h' with h'
  injection h' with _ ht
  exact hne ht
theorem bel_one (w : World) (o : Obj) : Below w.heap.size w (w.alloc o) := (Below.refl _ _).alloc (Nat.le_refl _) _
theorem bel_two (w : World) (o o2 : Obj) : Below w.heap.size w ((w.alloc o).alloc o2) := ((Below.refl _ _).alloc (Nat.le_refl _) _).alloc (by simp) _
theorem heap_new (w : World) (o : Obj) : (w.alloc o).heap[w.heap.size]? = some o := heap_alloc_new w o
theorem heap_old {w : World} {g : Nat} {o p : Obj} (h : w.heap[g]? = some o) : (w.alloc p).heap[g]? = some o := (Below.heap_alloc w p g (lt_heap h)).trans h
end Go.Proofs.YtgfjdkkfgclhjaaGreat
/- Rows that the call itself laid: what keeps them. No function of the program is in sight. -/
namespace Go.Proofs.YtgfjdkkfgclhjaaGreat.Lx
open Go.RowKit

theorem own_kept {w w' : World} {base size n : Nat} {e : TypeId} {v : Value} {xs : List Value} {row : Option Nat} (ho : w.ownsRow base e size v n xs) (h : w.grownBy w' row) (hne : ∀ g, row = some g → v.ownBlock ≠ some g) : w'.ownsRow base e size v n xs := by
  refine ho.kept h ?_
  cases hv : v.ownBlock with
  | none => exact .inl rfl
  | some k => right; intro he; exact hne k he.symm hv
theorem below_grown {w w' : World} (h : Below w.heap.size w w') (row : Option Nat) : w.grownBy w' row := ⟨h.os, h.tape, h.output, h.size, fun k hk _ => h.block k hk⟩
theorem own_below {w w' : World} {base size n : Nat} {e : TypeId} {v : Value} {xs : List Value} (ho : w.ownsRow base e size v n xs) (h : Below w.heap.size w w') : w'.ownsRow base e size v n xs := own_kept ho (below_grown h none) (fun g h => by cases h)
/-- two rows of two types lie apart -/
theorem own_types {w : World} {b1 b2 s1 s2 n1 n2 : Nat} {e1 e2 : TypeId} {v1 v2 : Value} {xs ys : List Value} (h1 : w.ownsRow b1 e1 s1 v1 n1 xs) (h2 : w.ownsRow b2 e2 s2 v2 n2 ys) (hne : e1 ≠ e2) (g : Nat) (hg : v1.ownBlock = some g) : v2.ownBlock ≠ some g := by
  intro hg2
  rcases h1.2 with ⟨rfl, _⟩ | ⟨g1, c1, cur1, rfl, _, hh1, _⟩
  · simp [Value.ownBlock] at hg
  · rcases h2.2 with ⟨rfl, _⟩ | ⟨g2, c2, cur2, rfl, _, hh2, _⟩
    · simp [Value.ownBlock] at hg2
    · have e1' : g1 = g := by simpa [Value.ownBlock] using hg
      have e2' : g2 = g := by simpa [Value.ownBlock] using hg2
      subst e1' e2'
      exact heap_ne hh1 hh2 hne rfl
theorem own_ne_row {w : World} {base g : Nat} {e t : TypeId} {size n : Nat} {v : Value} {xs : List Value} {cs : Array Value} (h : w.ownsRow base e size v n xs) (hg : w.heap[g]? = some (.cells cs t (0, 0))) (hne : e ≠ t) : v.ownBlock ≠ some g := by
  rcases h.2 with ⟨rfl, _⟩ | ⟨g', cap, cur, rfl, _, hh, _⟩
  · simp [Value.ownBlock]
  · intro he
    have : g' = g := by simpa [Value.ownBlock] using he
    subst this
    exact heap_ne (t := e) hh hg hne rfl
theorem heap_grown {w w' : World} {row : Option Nat} {g : Nat} {o : Obj} (h : w.heap[g]? = some o) (hb : w.grownBy w' row) (hg : row ≠ some g) : w'.heap[g]? = some o := (hb.block g (lt_heap h) (fun e => hg e.symm)).trans h
theorem own_base {w : World} {b b' size n : Nat} {e : TypeId} {v : Value} {xs : List Value} (h : w.ownsRow b e size v n xs) (hb : b' ≤ b) : w.ownsRow b' e size v n xs := by
  refine ⟨h.1, ?_⟩
  rcases h.2 with h2 | ⟨g, cap, cur, h1, h2, h3⟩
  · exact .inl h2
  · exact .inr ⟨g, cap, cur, h1, Nat.le_trans hb h2, h3⟩
theorem own_slice {w : World} {b size n : Nat} {e : TypeId} {v : Value} {xs : List Value} (h : w.ownsRow b e size v n xs) : ∃ A c, v = .slice A n c := by
  rcases h.2 with ⟨rfl, rfl⟩ | ⟨g, cap, cur, rfl, _⟩
  · exact ⟨none, 0, rfl⟩
  · exact ⟨_, _, rfl⟩
end Go.Proofs.YtgfjdkkfgclhjaaGreat.Lx
/- Maps of the call's own whose elements are integers or bools, told by a function on keys. No program is in sight. -/
namespace Go.Proofs.YtgfjdkkfgclhjaaGreat.Bd
open Go Go.Maps

variable {P : Program} {w : World} {k e t : TypeId} {q : IntKind} {b n N : Nat} {α : Type} {en : α → Value}

/-- block b: keys of type k read through f; elements: integers of kind q -/
def MInt (P : Program) (w : World) (k e : TypeId) (q : IntKind) (b n : Nat) (en : α → Value) (f : α → Option Int) : Prop :=
  ∃ D : DataW Unit, w.ownsMap P k (plainElem P e) b n D ∧ ∀ x kl, keyOf P k (en x) = some kl → Maps.has D kl = (f x).isSome ∧ ∀ c, f x = some c → D.atKey kl (.lit (.int q 0)) = .lit (.int q c)
/-- block b: the set of the keys at which f is true -/
def MSet (P : Program) (w : World) (k e : TypeId) (b n N : Nat) (en : α → Value) (f : α → Bool) : Prop :=
  ∃ D : DataW Unit, w.ownsMap P k (plainElem P e) b n D ∧ Maps.size D = N ∧ ∀ x kl, keyOf P k (en x) = some kl → Maps.has D kl = f x ∧ D.atKey kl (.lit (.bool false)) = .lit (.bool (f x))

theorem MInt.made (w : World) (k e : TypeId) (q : IntKind) (en : α → Value) : MInt P (w.alloc (.map #[] 0)) k e q w.heap.size 0 en (fun _ => none) :=
  ⟨.map [], World.ownsMap_made w P k _, fun _ _ _ => ⟨rfl, fun _ h => by cases h⟩⟩
theorem MSet.made (w : World) (k e : TypeId) (en : α → Value) : MSet P (w.alloc (.map #[] 0)) k e w.heap.size 0 0 en (fun _ => false) :=
  ⟨.map [], World.ownsMap_made w P k _, rfl, fun _ _ _ => ⟨rfl, rfl⟩⟩
theorem MInt.kept {w' : World} {row : Option Nat} {f : α → Option Int} (h : MInt P w k e q b n en f) (hg : w.grownBy w' row) (hne : some b ≠ row) : MInt P w' k e q b n en f := by
  obtain ⟨D, h1, h2⟩ := h
  exact ⟨D, h1.kept hg hne, h2⟩
theorem MSet.kept {w' : World} {row : Option Nat} {f : α → Bool} (h : MSet P w k e b n N en f) (hg : w.grownBy w' row) (hne : some b ≠ row) : MSet P w' k e b n N en f := by
  obtain ⟨D, h1, h2⟩ := h
  exact ⟨D, h1.kept hg hne, h2⟩
theorem MInt.lt {f : α → Option Int} (h : MInt P w k e q b n en f) : b < w.heap.size := by obtain ⟨D, h1, _⟩ := h; exact h1.lt
theorem MSet.lt {f : α → Bool} (h : MSet P w k e b n N en f) : b < w.heap.size := by obtain ⟨D, h1, _⟩ := h; exact h1.lt
theorem MInt.mono {n' : Nat} {f : α → Option Int} (h : MInt P w k e q b n en f) (hn : n ≤ n') : MInt P w k e q b n' en f := by
  obtain ⟨D, h1, h2⟩ := h
  exact ⟨D, h1.mono hn, h2⟩
theorem MSet.mono {n' : Nat} {f : α → Bool} (h : MSet P w k e b n N en f) (hn : n ≤ n') : MSet P w k e b n' N en f := by
  obtain ⟨D, h1, h2⟩ := h
  exact ⟨D, h1.mono hn, h2⟩
theorem MInt.setCell {f : α → Option Int} (h : MInt P w k e q b n en f) {a : Addr} (ha : b ≠ a.block) (u : Value) : MInt P (w.setCell a u) k e q b n en f := by
  obtain ⟨D, h1, h2⟩ := h
  exact ⟨D, h1.setCell ha u, h2⟩
theorem MSet.setCell {f : α → Bool} (h : MSet P w k e b n N en f) {a : Addr} (ha : b ≠ a.block) (u : Value) : MSet P (w.setCell a u) k e b n N en f := by
  obtain ⟨D, h1, h2⟩ := h
  exact ⟨D, h1.setCell ha u, h2⟩
theorem plainElem_bool_inv {H : Type} (he : P.underlying e = some .bool) {v : Value} {z : DataW H × List MemPlace} (h : plainElem P e v = some z) : ∃ x, v = .bool x ∧ z = (.lit (.bool x), []) := by
  unfold plainElem at h
  rw [he] at h
  cases v <;> simp at h
  subst h
  exact ⟨_, rfl, rfl⟩

/-- 'v, ok := m[k]' -/
theorem MInt.look {f : α → Option Int} (h : MInt P w k e q b n en f) (K : Keyed P k) (ht : P.underlying t = some (.map k e)) (he : P.underlying e = some (.int q)) (hz : (zeroValue e).run P w = .ok (.int q 0) w) {key : α} {kl : Lit} (hkey : keyOf P k (en key) = some kl) :
    (Instr.lookup t (.map (some b)) (en key) true).run P w = .ok (.tuple #[.int q ((f key).getD 0), .bool (f key).isSome]) w := by
  obtain ⟨D, h1, h2⟩ := h
  have hw0 : (Lit.int q 0).wf = true := by cases q <;> decide
  obtain ⟨v, ps, hrun, hv⟩ := h1.look_ok K ht hz (plainElem_int he hw0) hkey
  obtain ⟨c, rfl, hc, _⟩ := plainElem_int_inv he hv
  obtain ⟨g1, g2⟩ := h2 key kl hkey
  have hc1 := congrArg Prod.fst hc
  simp only at hc1
  rw [g1] at hrun
  cases hf : f key with
  | none =>
    rw [hf] at g1
    rw [atKey_of_not_has g1] at hc1
    cases hc1
    rw [hrun, hf]; rfl
  | some c' =>
    rw [g2 c' hf] at hc1
    cases hc1
    rw [hrun, hf]; rfl
/-- 'm[k]' -/
theorem MSet.look {f : α → Bool} (h : MSet P w k e b n N en f) (K : Keyed P k) (ht : P.underlying t = some (.map k e)) (he : P.underlying e = some .bool) (hz : (zeroValue e).run P w = .ok (.bool false) w) {key : α} {kl : Lit} (hkey : keyOf P k (en key) = some kl) :
    (Instr.lookup t (.map (some b)) (en key) false).run P w = .ok (.bool (f key)) w := by
  obtain ⟨D, h1, hN, h2⟩ := h
  obtain ⟨v, ps, hrun, hv⟩ := h1.lookup K ht hz (plainElem_bool he false) hkey
  obtain ⟨c, rfl, hc⟩ := plainElem_bool_inv he hv
  have hc1 := congrArg Prod.fst hc
  simp only [(h2 key kl hkey).2] at hc1
  cases hc1
  exact hrun
/-- 'm[k] = v' -/
theorem MInt.store [DecidableEq α] {f : α → Option Int} (h : MInt P w k e q b n en f) (K : Keyed P k) (ht : P.underlying t = some (.map k e)) (he : P.underlying e = some (.int q)) (hn : n < maxLen) (inj : ∀ x y, en x = en y → x = y) {key : α} {kl : Lit} (hkey : keyOf P k (en key) = some kl) {c : Int} (hc : (Lit.int q c).wf = true) :
    ∃ w', (Instr.mapUpdate t (.map (some b)) (en key) (.int q c)).run P w = .ok () w' ∧ MInt P w' k e q b (n + 1) en (fun x => if x = key then some c else f x) ∧ w.mapTurned w' b := by
  obtain ⟨D, h1, h2⟩ := h
  obtain ⟨w', hrun, g1, g2⟩ := h1.store K ht hn hkey (plainElem_int he hc)
  refine ⟨w', hrun, ⟨_, g1, fun key' kl' hkey' => ?_⟩, g2⟩
  have hD := (h1.tidy K).isMap
  by_cases hq : key' = key
  · subst hq
    obtain rfl : kl' = kl := Option.some.inj (hkey'.symm.trans hkey)
    refine ⟨by rw [has_put_same hD (K.key hkey)]; simp, fun c' hc' => ?_⟩
    simp only [if_true] at hc'
    cases hc'
    exact atKey_put_same hD (K.key hkey) _ _
  · have hne : kl' ≠ kl := fun e => hq (inj _ _ (K.inj hkey' (e ▸ hkey)))
    rw [has_put_other hne, atKey_put_other hne]
    simp only [if_neg hq]
    exact h2 key' kl' hkey'
theorem MSet.store [DecidableEq α] {f : α → Bool} (h : MSet P w k e b n N en f) (K : Keyed P k) (ht : P.underlying t = some (.map k e)) (he : P.underlying e = some .bool) (hn : n < maxLen) (inj : ∀ x y, en x = en y → x = y) {key : α} {kl : Lit} (hkey : keyOf P k (en key) = some kl) :
    ∃ w', (Instr.mapUpdate t (.map (some b)) (en key) (.bool true)).run P w = .ok () w' ∧ MSet P w' k e b (n + 1) (if f key then N else N + 1) en (fun x => decide (x = key) || f x) ∧ w.mapTurned w' b := by
  obtain ⟨D, h1, hN, h2⟩ := h
  obtain ⟨w', hrun, g1, g2⟩ := h1.store K ht hn hkey (plainElem_bool he true)
  have hT := h1.tidy K
  have hD := hT.isMap
  refine ⟨w', hrun, ⟨_, g1, ?_, fun key' kl' hkey' => ?_⟩, g2⟩
  · rw [size_put hT, (h2 key kl hkey).1, hN]
  · by_cases hq : key' = key
    · subst hq
      obtain rfl : kl' = kl := Option.some.inj (hkey'.symm.trans hkey)
      rw [has_put_same hD (K.key hkey), atKey_put_same hD (K.key hkey)]
      simp
    · have hne : kl' ≠ kl := fun e => hq (inj _ _ (K.inj hkey' (e ▸ hkey)))
      rw [has_put_other hne, atKey_put_other hne]
      simp only [decide_eq_false hq, Bool.false_or]
      exact h2 key' kl' hkey'
/-- 'len(m)' -/
theorem MSet.len {f : α → Bool} (h : MSet P w k e b n N en f) (ht : P.underlying t = some (.map k e)) (ty : TypeId) : (Builtin.len_ #[t] ty #[.map (some b)]).run P w = .ok (.int .i64 N) w := by
  obtain ⟨D, h1, hN, _⟩ := h
  rw [h1.len ht ty, hN]

/-! ### at the operation -/
section
variable {ops : Array Oper} {rest : List Oper} {o : Oper} {a : Act} {Q : Exit → Act → World → Prop}
theorem wpList_put [DecidableEq α] (hg : o.guard = none) (m x v : Operand) (hop : o.op = Op.mapUpdate t m x v) {f : α → Option Int} (h : MInt P w k e q b n en f) (K : Keyed P k) (ht : P.underlying t = some (.map k e)) (he : P.underlying e = some (.int q)) (hn : n < maxLen) (inj : ∀ x y, en x = en y → x = y)
    (hm : a.eval m = .map (some b)) (key : α) (kl : Lit) (hx : a.eval x = en key) (hkey : keyOf P k (en key) = some kl) (c : Int) (hv : a.eval v = .int q c) (hc : (Lit.int q c).wf = true)
    (hK : ∀ w', MInt P w' k e q b (n + 1) en (fun x => if x = key then some c else f x) → w.mapTurned w' b → wpList P ops Q rest (a.put o.dst undef) w') : wpList P ops Q (o :: rest) a w := by
  refine wpList_plain hg fun K' hK' => ?_
  obtain ⟨w', hrun, r1, r2⟩ := h.store K ht he hn inj hkey hc
  unfold Oper.wp
  simp [execOp, hop, hm, hx, hv, hrun, Result.andThen]
  exact hK' _ _ (hK w' r1 r2)
theorem wpList_add [DecidableEq α] (hg : o.guard = none) (m x v : Operand) (hop : o.op = Op.mapUpdate t m x v) {f : α → Bool} (h : MSet P w k e b n N en f) (K : Keyed P k) (ht : P.underlying t = some (.map k e)) (he : P.underlying e = some .bool) (hn : n < maxLen) (inj : ∀ x y, en x = en y → x = y)
    (hm : a.eval m = .map (some b)) (key : α) (kl : Lit) (hx : a.eval x = en key) (hkey : keyOf P k (en key) = some kl) (hv : a.eval v = .bool true)
    (hK : ∀ w', MSet P w' k e b (n + 1) (if f key then N else N + 1) en (fun x => decide (x = key) || f x) → w.mapTurned w' b → wpList P ops Q rest (a.put o.dst undef) w') : wpList P ops Q (o :: rest) a w := by
  refine wpList_plain hg fun K' hK' => ?_
  obtain ⟨w', hrun, r1, r2⟩ := h.store K ht he hn inj hkey
  unfold Oper.wp
  simp [execOp, hop, hm, hx, hv, hrun, Result.andThen]
  exact hK' _ _ (hK w' r1 r2)
theorem wpList_ins [DecidableEq α] (hg : o.guard = none) (m x v : Operand) (hop : o.op = Op.insert t m x v) {f : α → Bool} (h : MSet P w k e b n N en f) (K : Keyed P k) (ht : P.underlying t = some (.map k e)) (he : P.underlying e = some .bool) (hn : n < maxLen) (inj : ∀ x y, en x = en y → x = y)
    (hm : a.eval m = .map (some b)) (key : α) (kl : Lit) (hx : a.eval x = en key) (hkey : keyOf P k (en key) = some kl) (hv : a.eval v = .bool true)
    (hK : ∀ w', MSet P w' k e b (n + 1) (if f key then N else N + 1) en (fun x => decide (x = key) || f x) → w.mapTurned w' b → wpList P ops Q rest (a.put o.dst undef) w') : wpList P ops Q (o :: rest) a w := by
  refine wpList_plain hg fun K' hK' => ?_
  obtain ⟨w', hrun, r1, r2⟩ := h.store K ht he hn inj hkey
  unfold Oper.wp
  simp [execOp, hop, hm, hx, hv, hrun, Result.andThen]
  exact hK' _ _ (hK w' r1 r2)
end
end Go.Proofs.YtgfjdkkfgclhjaaGreat.Bd
/- The arena's types: keys and elements of its maps. -/
namespace Go.Proofs.YtgfjdkkfgclhjaaGreat.Bd
open Go.RowKit Go.Proofs.YtgfjdkkfgclhjaaGreat Go.Proofs.YtgfjdkkfgclhjaaGreat.Lx Go.Maps

def encN (x : Nd) : Value := .agg #[.int .i32 x.1, .int .i32 x.2.1, .int .i32 x.2.2]
def encI (x : Int) : Value := .int .i64 x
def enc3 (x : Int) : Value := .int .i32 x
theorem encN_inj (x y : Nd) (h : encN x = encN y) : x = y := by
  obtain ⟨a, b, c⟩ := x
  obtain ⟨a', b', c'⟩ := y
  simp [encN] at h
  simp only [Prod.mk.injEq]
  omega
theorem encI_inj (x y : Int) (h : encI x = encI y) : x = y := by simpa [encI] using h
theorem enc3_inj (x y : Int) (h : enc3 x = enc3 y) : x = y := by simpa [enc3] using h
theorem laidOut : laidOutB Tryz.prog = true := by kernel_rfl
theorem keyedN : Keyed Tryz.prog 44 := Keyed.of_law (deep_law_laid (m := 9999) laidOut (by omega) (of_decide_eq_true (by kernel_rfl)) (by kernel_rfl) (by kernel_rfl))
theorem keyedT : Keyed Tryz.prog 135 := Keyed.of_law (deep_law_laid (m := 9999) laidOut (by omega) (of_decide_eq_true (by kernel_rfl)) (by kernel_rfl) (by kernel_rfl))
theorem keyed3 : Keyed Tryz.prog 21 := int_keyed (q := .i32) (by kernel_rfl)
theorem keyedI : Keyed Tryz.prog 3 := int_keyed (q := .i64) (by kernel_rfl)
def small (x : Nd) : Prop := x.1 < 2147483648 ∧ x.2.1 < 2147483648 ∧ x.2.2 < 2147483648
theorem sizeT : ∃ d, Tryz.prog.types.size + 1 = d + 3 := by
  have h : (decide (2 ≤ Tryz.prog.types.size)) = true := by kernel_rfl
  have := of_decide_eq_true h
  exact ⟨Tryz.prog.types.size - 2, by omega⟩
theorem wf3 {x : Int} (h : -2147483648 ≤ x) (h2 : x < 2147483648) : (Lit.int .i32 x).wf = true := by
  simp [Lit.wf, IntKind.min, IntKind.max, IntKind.bits, IntKind.signed]
  omega
theorem wfI {x : Int} (h : -9223372036854775808 ≤ x) (h2 : x < 9223372036854775808) : (Lit.int .i64 x).wf = true := by
  simp [Lit.wf, IntKind.min, IntKind.max, IntKind.bits, IntKind.signed]
  omega
theorem litI (d : Nat) {x : Int} (h : (Lit.int .i32 x).wf = true) : Tryz.prog.keyLits (d + 1) 21 [.int .i32 x] = some [.int .i32 x] := by
  unfold Program.keyLits
  rw [Tryz.underlying21]
  simp [h]
theorem keyN (x : Nd) (h : small x) : ∃ kl, keyOf Tryz.prog 44 (encN x) = some kl := by
  obtain ⟨a, b, c⟩ := x
  obtain ⟨h1, h2, h3⟩ := h
  simp only at h1 h2 h3
  obtain ⟨d, hd⟩ := sizeT
  have w1 := litI (d + 1) (wf3 (x := a) (by omega) (by omega))
  have w2 := litI (d + 1) (wf3 (x := b) (by omega) (by omega))
  have w3 := litI (d + 1) (wf3 (x := c) (by omega) (by omega))
  have hk : Tryz.prog.keyType 44 = true := by kernel_rfl
  have hc : Tryz.prog.cellsOf 44 = 3 := by kernel_rfl
  have hc1 : Tryz.prog.cellsOf 21 = 1 := by kernel_rfl
  have e : (encN (a, b, c)).formed Tryz.prog 44 = true := by
    unfold Value.formed encN
    simp only
    rw [Tryz.underlying44, hc]
    rfl
  have l : Tryz.prog.keyLits (d + 3) 44 [.int .i32 a, .int .i32 b, .int .i32 c] = some [.int .i32 a, .int .i32 b, .int .i32 c] := by
    unfold Program.keyLits
    rw [Tryz.underlying44, hc]
    simp [hc1, w1, w2, w3]
  unfold keyOf
  rw [Tryz.underlying44]
  simp only [hk, e, Bool.and_self, if_true]
  rw [hd, show (encN (a, b, c)).cells.toList = [.int .i32 a, .int .i32 b, .int .i32 c] from rfl, l]
  exact ⟨_, rfl⟩
theorem keyT (x : Nd) (h : small x) : ∃ kl, keyOf Tryz.prog 135 (encN x) = some kl := by
  obtain ⟨a, b, c⟩ := x
  obtain ⟨h1, h2, h3⟩ := h
  simp only at h1 h2 h3
  obtain ⟨d, hd⟩ := sizeT
  have w1 := litI (d + 1) (wf3 (x := a) (by omega) (by omega))
  have w2 := litI (d + 1) (wf3 (x := b) (by omega) (by omega))
  have w3 := litI (d + 1) (wf3 (x := c) (by omega) (by omega))
  have hk : Tryz.prog.keyType 135 = true := by kernel_rfl
  have hc : Tryz.prog.cellsOf 135 = 3 := by kernel_rfl
  have hc1 : Tryz.prog.cellsOf 21 = 1 := by kernel_rfl
  have e : (encN (a, b, c)).formed Tryz.prog 135 = true := by
    unfold Value.formed encN
    simp only
    rw [Tryz.underlying135, hc]
    rfl
  have l : Tryz.prog.keyLits (d + 3) 135 [.int .i32 a, .int .i32 b, .int .i32 c] = some [.int .i32 a, .int .i32 b, .int .i32 c] := by
    unfold Program.keyLits
    rw [Tryz.underlying135, hc]
    simp [hc1, w1, w2, w3, show List.range 3 = [0, 1, 2] by rfl]
  unfold keyOf
  rw [Tryz.underlying135]
  simp only [hk, e, Bool.and_self, if_true]
  rw [hd, show (encN (a, b, c)).cells.toList = [.int .i32 a, .int .i32 b, .int .i32 c] from rfl, l]
  exact ⟨_, rfl⟩
theorem keyI (x : Int) (h : -9223372036854775808 ≤ x) (h2 : x < 9223372036854775808) : keyOf Tryz.prog 3 (encI x) = some (.int .i64 x) := keyOf_int_mk (by kernel_rfl) (wfI h h2)
theorem key3 (x : Int) (h : -2147483648 ≤ x) (h2 : x < 2147483648) : keyOf Tryz.prog 21 (enc3 x) = some (.int .i32 x) := keyOf_int_mk (by kernel_rfl) (wf3 h h2)
theorem zero3 (w : World) : (zeroValue 21).run Tryz.prog w = .ok (.int .i32 0) w := by
  exact Tryz.zeroValue21 w
theorem zeroB (w : World) : (zeroValue 4).run Tryz.prog w = .ok (.bool false) w := by
  exact Tryz.zeroValue4 w
end Go.Proofs.YtgfjdkkfgclhjaaGreat.Bd
/- An arena in memory: its block, the row of its nodes, its four maps; what keeps it. -/
namespace Go.Proofs.YtgfjdkkfgclhjaaGreat.Bd
open Go.RowKit Go.Proofs.YtgfjdkkfgclhjaaGreat Go.Proofs.YtgfjdkkfgclhjaaGreat.Lx Go.Maps

structure Blk where
  p : Nat
  g : Nat
  c : Nat
  bm : Nat
  it : Nat
  gi : Nat
  he : Nat
structure St where
  vs : Nat
  ms : Nat
  nd : List Nd
  gi : Int → Bool
  gn : Nat
  he : Int → Bool
  hn : Nat
  m : Nat
def cellsN (nd : List Nd) : List Value := nd.flatMap fun x => [.int .i32 x.1, .int .i32 x.2.1, .int .i32 x.2.2]
theorem cellsN_append (a b : List Nd) : cellsN (a ++ b) = cellsN a ++ cellsN b := by simp [cellsN]
theorem cellsN_get : ∀ {nd : List Nd} {i : Nat} {x : Nd}, nd[i]? = some x → (cellsN nd)[i * 3]? = some (.int .i32 x.1) ∧ (cellsN nd)[i * 3 + 1]? = some (.int .i32 x.2.1) ∧ (cellsN nd)[i * 3 + 2]? = some (.int .i32 x.2.2) := by
  intro nd
  induction nd with
  | nil => intro i x h; simp at h
  | cons y ys ih =>
    intro i x h
    cases i with
    | zero => simp at h; subst h; simp [cellsN]
    | succ i =>
      have := ih (i := i) (x := x) (by simpa using h)
      have e : cellsN (y :: ys) = [.int .i32 y.1, .int .i32 y.2.1, .int .i32 y.2.2] ++ cellsN ys := by simp [cellsN]
      rw [e, show (i + 1) * 3 = i * 3 + 3 by omega, List.getElem?_append_right (by simp), List.getElem?_append_right (by simp), List.getElem?_append_right (by simp)]
      simpa using this
def cellsA (k : Blk) (s : St) : Array Value := #[.int .i64 s.vs, .int .i64 s.ms, .slice (some ⟨k.g, 0, none⟩) s.nd.length k.c, .map (some k.bm), .map (some k.it), .map (some k.gi), .map (some k.he)]

/-- what lies in memory -/
structure Hp (w : World) (k : Blk) (s : St) (fb ft : Nd → Option Int) : Prop where
  p : w.heap[k.p]? = some (.cells (cellsA k s) 51 (0, 0))
  v : w.ownsRow 0 44 3 (.slice (some ⟨k.g, 0, none⟩) s.nd.length k.c) s.nd.length (cellsN s.nd)
  bm : MInt Tryz.prog w 44 21 .i32 k.bm s.m encN fb
  it : MInt Tryz.prog w 135 21 .i32 k.it s.m encN ft
  gi : ∃ N, MSet Tryz.prog w 3 4 k.gi s.gn N encI s.gi
  he : MSet Tryz.prog w 21 4 k.he s.hn s.hn enc3 s.he
  d1 : k.bm ≠ k.it
  d2 : k.bm ≠ k.gi
  d3 : k.bm ≠ k.he
  d4 : k.it ≠ k.gi
  d5 : k.it ≠ k.he
  d6 : k.gi ≠ k.he
def fp (k : Blk) (i : Nat) : Prop := i = k.p ∨ i = k.g ∨ i = k.bm ∨ i = k.it ∨ i = k.gi ∨ i = k.he
/-- all but the arena's own blocks is as it was -/
structure Turn (k k' : Blk) (w w' : World) : Prop where
  os : w'.os = w.os
  tape : w'.tape = w.tape
  output : w'.output = w.output
  size : w.heap.size ≤ w'.heap.size
  p : k'.p = k.p
  bm : k'.bm = k.bm
  it : k'.it = k.it
  gi : k'.gi = k.gi
  he : k'.he = k.he
  row : k'.g = k.g ∨ w.heap.size ≤ k'.g
  block : ∀ i, i < w.heap.size → ¬ fp k i → w'.heap[i]? = w.heap[i]?

variable {w w' : World} {k k' : Blk} {s s' : St} {fb ft : Nd → Option Int}
theorem MInt.heap {P : Program} {kt e : TypeId} {q : IntKind} {b n : Nat} {α : Type} {en : α → Value} {f : α → Option Int} (h : MInt P w kt e q b n en f) : ∃ es cl, w.heap[b]? = some (.map es cl) := by
  obtain ⟨D, ⟨es, cl, hb, _⟩, _⟩ := h
  exact ⟨es, cl, hb⟩
theorem MSet.heap {P : Program} {kt e : TypeId} {b n N : Nat} {α : Type} {en : α → Value} {f : α → Bool} (h : MSet P w kt e b n N en f) : ∃ es cl, w.heap[b]? = some (.map es cl) := by
  obtain ⟨D, ⟨es, cl, hb, _⟩, _⟩ := h
  exact ⟨es, cl, hb⟩
theorem ne_kind {i j : Nat} {cs : Array Value} {t : TypeId} {fz : Nat × Nat} {es : Array MapEntry} {cl : Nat} (h : w.heap[i]? = some (.cells cs t fz)) (h2 : w.heap[j]? = some (.map es cl)) : i ≠ j := by
  rintro rfl
  rw [h] at h2
  cases h2
theorem Hp.row (h : Hp w k s fb ft) : ∃ cur, w.heap[k.g]? = some (.cells cur 44 (0, 0)) := by
  rcases h.v.2 with ⟨h1, _⟩ | ⟨g, cap, cur, h1, _, h3, _⟩
  · cases h1
  · cases h1
    exact ⟨cur, h3⟩
theorem Hp.pg (h : Hp w k s fb ft) : k.p ≠ k.g := by
  obtain ⟨cur, hc⟩ := h.row
  exact heap_ne h.p hc (by decide)
theorem Hp.giHeap (h : Hp w k s fb ft) : ∃ (N : Nat) (es : Array MapEntry) (cl : Nat), w.heap[k.gi]? = some (.map es cl) := by
  obtain ⟨N, hg⟩ := h.gi
  obtain ⟨es, cl, e⟩ := hg.heap
  exact ⟨N, es, cl, e⟩
theorem Hp.lt (h : Hp w k s fb ft) : ∀ i, fp k i → i < w.heap.size := by
  rintro i (rfl | rfl | rfl | rfl | rfl | rfl)
  · exact lt_heap h.p
  · obtain ⟨cur, hc⟩ := h.row; exact lt_heap hc
  · exact h.bm.lt
  · exact h.it.lt
  · obtain ⟨N, hg⟩ := h.gi; exact hg.lt
  · exact h.he.lt
theorem Hp.maps (h : Hp w k s fb ft) : k.p ≠ k.bm ∧ k.p ≠ k.it ∧ k.p ≠ k.gi ∧ k.p ≠ k.he ∧ k.g ≠ k.bm ∧ k.g ≠ k.it ∧ k.g ≠ k.gi ∧ k.g ≠ k.he := by
  obtain ⟨cur, hc⟩ := h.row
  obtain ⟨_, _, e1⟩ := h.bm.heap
  obtain ⟨_, _, e2⟩ := h.it.heap
  obtain ⟨_, _, _, e3⟩ := h.giHeap
  obtain ⟨_, _, e4⟩ := h.he.heap
  exact ⟨ne_kind h.p e1, ne_kind h.p e2, ne_kind h.p e3, ne_kind h.p e4, ne_kind hc e1, ne_kind hc e2, ne_kind hc e3, ne_kind hc e4⟩
theorem Hp.kept {row : Option Nat} (h : Hp w k s fb ft) (hg : w.grownBy w' row) (hne : ∀ b, row = some b → ¬ fp k b) : Hp w' k s fb ft := by
  have hn : ∀ i, fp k i → some i ≠ row := fun i hi e => hne i e.symm hi
  refine ⟨heap_grown h.p hg (fun e => hne _ e (.inl rfl)), own_kept h.v hg (fun g e => ?_), h.bm.kept hg (hn _ (by simp [fp])), h.it.kept hg (hn _ (by simp [fp])), (h.gi.imp fun N hN => hN.kept hg (hn _ (by simp [fp]))), h.he.kept hg (hn _ (by simp [fp])), h.d1, h.d2, h.d3, h.d4, h.d5, h.d6⟩
  intro e2
  have : k.g = g := by simpa [Value.ownBlock] using e2
  exact hne g e (by subst this; simp [fp])
theorem Hp.below (h : Hp w k s fb ft) (hb : Below w.heap.size w w') : Hp w' k s fb ft := h.kept (below_grown hb none) (fun b e => by cases e)
theorem Hp.drew (h : Hp w k s fb ft) : Hp w.drew k s fb ft := h.below ((Below.refl _ w).drew)
theorem Hp.far (h : Hp w k s fb ft) {a : Addr} (ha : ¬ fp k a.block) (u : Value) : Hp (w.setCell a u) k s fb ft :=
  h.kept (row := some a.block) ⟨rfl, rfl, rfl, by simp [World.setCell], fun i _ hi => Below.heap_setCell _ _ _ _ (fun e => hi (by rw [e]))⟩ (fun b e => by cases e; exact ha)

theorem Turn.refl (k : Blk) (w : World) : Turn k k w w := ⟨rfl, rfl, rfl, Nat.le_refl _, rfl, rfl, rfl, rfl, rfl, .inl rfl, fun _ _ _ => rfl⟩
theorem Turn.trans {k2 : Blk} {w2 : World} (h : Turn k k' w w') (h2 : Turn k' k2 w' w2) : Turn k k2 w w2 := by
  have hs := h.size
  refine ⟨h2.os.trans h.os, h2.tape.trans h.tape, h2.output.trans h.output, Nat.le_trans h.size h2.size, h2.p.trans h.p, h2.bm.trans h.bm, h2.it.trans h.it, h2.gi.trans h.gi, h2.he.trans h.he, ?_, fun i hi hf => ?_⟩
  · rcases h2.row with e | e
    · rcases h.row with e' | e'
      · exact .inl (e.trans e')
      · exact .inr (by omega)
    · exact .inr (by omega)
  · refine (h2.block i (by omega) ?_).trans (h.block i hi hf)
    intro hf'
    apply hf
    unfold fp at hf' ⊢
    rw [h.p, h.bm, h.it, h.gi, h.he] at hf'
    rcases hf' with e | e | e
    · exact .inl e
    · rcases h.row with e' | e'
      · exact .inr (.inl (by omega))
      · omega
    · exact .inr (.inr e)
theorem Turn.below (h : Below w.heap.size w w') : Turn k k w w' := ⟨h.os, h.tape, h.output, h.size, rfl, rfl, rfl, rfl, rfl, .inl rfl, fun i hi _ => h.block i hi⟩
theorem Turn.grown {row : Option Nat} (h : w.grownBy w' row) (hr : ∀ b, row = some b → fp k b) : Turn k k w w' := ⟨h.os, h.tape, h.output, h.size, rfl, rfl, rfl, rfl, rfl, .inl rfl, fun i hi hf => h.block i hi (fun e => hf (hr i e.symm))⟩
theorem Turn.cell (h : Turn k k' w w') {a : Addr} {u : Value} (hc : w.cell? a = some u) (hf : ¬ fp k a.block) : w'.cell? a = some u := by
  rw [World.cell?_of_block (h.block _ (lt_of_cell hc) hf)]; exact hc
theorem Turn.heap (h : Turn k k' w w') {i : Nat} {o : Obj} (hc : w.heap[i]? = some o) (hf : ¬ fp k i) : w'.heap[i]? = some o := (h.block _ (lt_heap hc) hf).trans hc
theorem Turn.fpn (h : Turn k k' w w') {i : Nat} (hi : i < w.heap.size) (hf : ¬ fp k i) : ¬ fp k' i := by
  intro hf'
  apply hf
  unfold fp at hf' ⊢
  rw [h.p, h.bm, h.it, h.gi, h.he] at hf'
  rcases hf' with e | e | e
  · exact .inl e
  · rcases h.row with e' | e'
    · exact .inr (.inl (by omega))
    · omega
  · exact .inr (.inr e)
/-- all that an arena may turn lies at B or above: what is below stays -/
theorem Turn.low {B : Nat} (h : Turn k k' w w') (hB : ∀ i, fp k i → B ≤ i) (hs : B ≤ w.heap.size) : Below B w w' := ⟨h.os, h.tape, h.output, h.size, fun i hi => h.block i (by omega) (fun hf => by have := hB i hf; omega)⟩

/-! ### the steps of a turn -/
theorem Hp.append (h : Hp w k s fb ft) {c' g' : Nat} {x : Nd} (hr : w'.ownsRow 0 44 3 (.slice (some ⟨g', 0, none⟩) (s.nd.length + 1) c') (s.nd.length + 1) (cellsN s.nd ++ [.int .i32 x.1, .int .i32 x.2.1, .int .i32 x.2.2]))
    (hg : w.grownBy w' (some k.g)) (hnew : g' = k.g ∨ w.heap.size ≤ g') :
    Hp (w'.setCell ⟨k.p, 2, none⟩ (.slice (some ⟨g', 0, none⟩) (s.nd.length + 1) c')) { k with g := g', c := c' } { s with nd := s.nd ++ [x] } fb ft ∧ Turn k { k with g := g', c := c' } w (w'.setCell ⟨k.p, 2, none⟩ (.slice (some ⟨g', 0, none⟩) (s.nd.length + 1) c')) := by
  have hm := h.maps
  have hp := h.pg
  have hl := h.lt
  have p1 := heap_grown h.p hg (fun e => hp (by injection e with e; exact e.symm))
  have nb : ∀ {b : Nat}, b ≠ k.g → some b ≠ some k.g := fun h e => h (by injection e)
  have m1 := h.bm.kept hg (nb (Ne.symm hm.2.2.2.2.1))
  have m2 := h.it.kept hg (nb (Ne.symm hm.2.2.2.2.2.1))
  have m3 := h.gi.imp fun N hN => hN.kept hg (nb (Ne.symm hm.2.2.2.2.2.2.1))
  have m4 := h.he.kept hg (nb (Ne.symm hm.2.2.2.2.2.2.2))
  have ha : (⟨k.p, 2, none⟩ : Addr).block = k.p := rfl
  refine ⟨⟨?_, ?_, m1.setCell (by rw [ha]; exact Ne.symm hm.1) _, m2.setCell (by rw [ha]; exact Ne.symm hm.2.1) _, (m3.imp fun N hN => hN.setCell (by rw [ha]; exact Ne.symm hm.2.2.1) _), m4.setCell (by rw [ha]; exact Ne.symm hm.2.2.2.1) _, h.d1, h.d2, h.d3, h.d4, h.d5, h.d6⟩, ?_⟩
  · rw [heap_set p1]
    simp [cellsA]
  · simp only [List.length_append, List.length_cons, List.length_nil, cellsN_append]
    have e : cellsN [x] = [.int .i32 x.1, .int .i32 x.2.1, .int .i32 x.2.2] := by simp [cellsN]
    rw [e]
    have pg' : k.p ≠ g' := by
      rcases hnew with e | e
      · rw [e]; exact hp
      · have := hl k.p (.inl rfl); omega
    refine own_kept (row := some k.p) hr ⟨rfl, rfl, rfl, by simp [World.setCell], fun i _ hi => Below.heap_setCell _ _ _ _ (fun e => hi (by rw [e]))⟩ (fun g e1 e2 => ?_)
    have a1 : k.p = g := by injection e1
    have a2 : g' = g := by simpa [Value.ownBlock] using e2
    exact pg' (by rw [a1, a2])
  · refine ⟨hg.os, hg.tape, hg.output, by simpa [World.setCell] using hg.size, rfl, rfl, rfl, rfl, rfl, hnew, fun i hi hf => ?_⟩
    refine (Below.heap_setCell _ _ _ _ (fun e => hf (.inl e))).trans (hg.block i hi (fun e => hf (.inr (.inl (by injection e)))))
theorem Hp.bmPut (h : Hp w k s fb ft) {fb' : Nd → Option Int} (hm : MInt Tryz.prog w' 44 21 .i32 k.bm (s.m + 1) encN fb') (hg : w.mapTurned w' k.bm) :
    Hp w' k { s with m := s.m + 1 } fb' ft ∧ Turn k k w w' := by
  have hg := hg.grown
  have hx := h.maps
  have nb : ∀ {b : Nat}, b ≠ k.bm → some b ≠ some k.bm := fun h e => h (by injection e)
  refine ⟨⟨heap_grown h.p hg (fun e => hx.1 (by injection e with e; exact e.symm)), own_kept h.v hg (fun g e1 e2 => hx.2.2.2.2.1 ?_), hm, (h.it.kept hg (nb (Ne.symm h.d1))).mono (Nat.le_succ _), (h.gi.imp fun N hN => hN.kept hg (nb (Ne.symm h.d2))), h.he.kept hg (nb (Ne.symm h.d3)), h.d1, h.d2, h.d3, h.d4, h.d5, h.d6⟩, Turn.grown hg (fun b e => by injection e with e; subst e; simp [fp])⟩
  have : k.g = g := by simpa [Value.ownBlock] using e2
  injection e1 with e1
  omega
theorem Hp.itPut (h : Hp w k s fb ft) {ft' : Nd → Option Int} (hm : MInt Tryz.prog w' 135 21 .i32 k.it (s.m + 1) encN ft') (hg : w.mapTurned w' k.it) :
    Hp w' k { s with m := s.m + 1 } fb ft' ∧ Turn k k w w' := by
  have hg := hg.grown
  have hx := h.maps
  have nb : ∀ {b : Nat}, b ≠ k.it → some b ≠ some k.it := fun h e => h (by injection e)
  refine ⟨⟨heap_grown h.p hg (fun e => hx.2.1 (by injection e with e; exact e.symm)), own_kept h.v hg (fun g e1 e2 => hx.2.2.2.2.2.1 ?_), (h.bm.kept hg (nb h.d1)).mono (Nat.le_succ _), hm, (h.gi.imp fun N hN => hN.kept hg (nb (Ne.symm h.d4))), h.he.kept hg (nb (Ne.symm h.d5)), h.d1, h.d2, h.d3, h.d4, h.d5, h.d6⟩, Turn.grown hg (fun b e => by injection e with e; subst e; simp [fp])⟩
  have : k.g = g := by simpa [Value.ownBlock] using e2
  injection e1 with e1
  omega
theorem Hp.giPut (h : Hp w k s fb ft) {N : Nat} {f : Int → Bool} (hm : MSet Tryz.prog w' 3 4 k.gi (s.gn + 1) N encI f) (hg : w.mapTurned w' k.gi) :
    Hp w' k { s with gi := f, gn := s.gn + 1 } fb ft ∧ Turn k k w w' := by
  have hg := hg.grown
  have hx := h.maps
  have nb : ∀ {b : Nat}, b ≠ k.gi → some b ≠ some k.gi := fun h e => h (by injection e)
  refine ⟨⟨heap_grown h.p hg (fun e => hx.2.2.1 (by injection e with e; exact e.symm)), own_kept h.v hg (fun g e1 e2 => hx.2.2.2.2.2.2.1 ?_), h.bm.kept hg (nb h.d2), h.it.kept hg (nb h.d4), ⟨N, hm⟩, h.he.kept hg (nb (Ne.symm h.d6)), h.d1, h.d2, h.d3, h.d4, h.d5, h.d6⟩, Turn.grown hg (fun b e => by injection e with e; subst e; simp [fp])⟩
  have : k.g = g := by simpa [Value.ownBlock] using e2
  injection e1 with e1
  omega
theorem Hp.hePut (h : Hp w k s fb ft) {N : Nat} {f : Int → Bool} (hm : MSet Tryz.prog w' 21 4 k.he N N enc3 f) (hg : w.mapTurned w' k.he) :
    Hp w' k { s with he := f, hn := N } fb ft ∧ Turn k k w w' := by
  have hg := hg.grown
  have hx := h.maps
  have nb : ∀ {b : Nat}, b ≠ k.he → some b ≠ some k.he := fun h e => h (by injection e)
  refine ⟨⟨heap_grown h.p hg (fun e => hx.2.2.2.1 (by injection e with e; exact e.symm)), own_kept h.v hg (fun g e1 e2 => hx.2.2.2.2.2.2.2 ?_), h.bm.kept hg (nb h.d3), h.it.kept hg (nb h.d5), (h.gi.imp fun N hN => hN.kept hg (nb h.d6)), hm, h.d1, h.d2, h.d3, h.d4, h.d5, h.d6⟩, Turn.grown hg (fun b e => by injection e with e; subst e; simp [fp])⟩
  have : k.g = g := by simpa [Value.ownBlock] using e2
  injection e1 with e1
  omega
/-! ### what the walk reads -/
theorem Hp.cell (h : Hp w k s fb ft) {j : Nat} {u : Value} (hj : (cellsA k s)[j]? = some u) : w.cell? ⟨k.p, j, none⟩ = some u := cell_heap h.p hj
theorem Hp.c0 (h : Hp w k s fb ft) : w.cell? ⟨k.p, 0, none⟩ = some (.int .i64 s.vs) := h.cell rfl
theorem Hp.c1 (h : Hp w k s fb ft) : w.cell? ⟨k.p, 1, none⟩ = some (.int .i64 s.ms) := h.cell rfl
theorem Hp.c2 (h : Hp w k s fb ft) : w.cell? ⟨k.p, 2, none⟩ = some (.slice (some ⟨k.g, 0, none⟩) s.nd.length k.c) := h.cell rfl
theorem Hp.c3 (h : Hp w k s fb ft) : w.cell? ⟨k.p, 3, none⟩ = some (.map (some k.bm)) := h.cell rfl
theorem Hp.c4 (h : Hp w k s fb ft) : w.cell? ⟨k.p, 4, none⟩ = some (.map (some k.it)) := h.cell rfl
theorem Hp.c5 (h : Hp w k s fb ft) : w.cell? ⟨k.p, 5, none⟩ = some (.map (some k.gi)) := h.cell rfl
theorem Hp.c6 (h : Hp w k s fb ft) : w.cell? ⟨k.p, 6, none⟩ = some (.map (some k.he)) := h.cell rfl
theorem Hp.frozen (h : Hp w k s fb ft) (j : Nat) : w.frozen? ⟨k.p, j, none⟩ = false := frozen_heap h.p
theorem Hp.node (h : Hp w k s fb ft) {i : Nat} {x : Nd} (hi : s.nd[i]? = some x) : w.cell? ⟨k.g, i * 3, none⟩ = some (.int .i32 x.1) ∧ w.cell? ⟨k.g, i * 3 + 1, none⟩ = some (.int .i32 x.2.1) ∧ w.cell? ⟨k.g, i * 3 + 2, none⟩ = some (.int .i32 x.2.2) := by
  have hlt := lt_of_some hi
  have hc := cellsN_get hi
  have := fun j hj => h.v.cellAt j hj
  exact ⟨(this _ (by omega)).trans hc.1, (this _ (by omega)).trans hc.2.1, (this _ (by omega)).trans hc.2.2⟩
end Go.Proofs.YtgfjdkkfgclhjaaGreat.Bd
/- Regions that draw their order: what only reckons may be taken first; what is left comes one by one. No program is in sight. -/
namespace Go.Proofs.YtgfjdkkfgclhjaaGreat

/-- an operation that only reckons -/
def plainB (o : Oper) : Bool :=
  match o.op with
  | .move _ | .assign _ | .pick .. | .build .. | .binOp .. | .unOp .. | .convert .. | .slice .. | .fieldAddr .. | .field .. | .indexAddr .. | .index .. | .extract .. => true
  | _ => false
theorem value_run {P : Program} (s : Sem Value) (w : World) : (∃ u w', (do pure (Next.value (← s)) : Sem Next).run P w = .ok (.value u) w') ∨ ∃ x w', (do pure (Next.value (← s)) : Sem Next).run P w = .halt x w' := by
  rw [Sem.run_bind]
  cases s.run P w with
  | ok u w' => exact .inl ⟨u, w', rfl⟩
  | halt x w' => exact .inr ⟨x, w', rfl⟩
theorem plain_run {P : Program} {o : Oper} {ρ : Operand → Value} (w : World) (hp : plainB o = true) : (∃ u w', (execOp ρ o).run P w = .ok (.value u) w') ∨ ∃ x w', (execOp ρ o).run P w = .halt x w' := by
  unfold plainB at hp
  unfold execOp
  split at hp <;> rename_i ho
  case h_1 => simp only [ho]; exact .inl ⟨_, _, rfl⟩
  case h_2 => simp only [ho]; exact .inl ⟨_, _, rfl⟩
  case h_3 => 
    simp only [ho]
    rw [Sem.run_bind]
    cases (asBool (ρ _)).run P w with
    | ok u w' => exact .inl ⟨_, w', rfl⟩
    | halt x w' => exact .inr ⟨x, w', rfl⟩
  case h_14 => cases hp
  all_goals (simp only [ho]; exact value_run _ _)

def ident (x : World) : World := x
/-- the class of all worlds -/
abbrev AnyW : World → Prop := fun w' => ∃ x, w' = ident x
theorem anyW (w : World) : AnyW w := ⟨w, rfl⟩

/-- the operation of this number -/
inductive AtN : List Oper → Nat → Oper → Prop
  | zero {o : Oper} {l : List Oper} : AtN (o :: l) 0 o
  | succ {k : Nat} {o x : Oper} {l : List Oper} : AtN l k o → AtN (x :: l) (k + 1) o
theorem AtN.get {l : List Oper} {k : Nat} {o : Oper} (h : AtN l k o) : l[k]? = some o := by
  induction h with
  | zero => rfl
  | succ _ ih => simpa using ih
/-- the operations of these numbers -/
inductive Picks (l : List Oper) : List Nat → List Oper → Prop
  | nil : Picks l [] []
  | cons {k : Nat} {o : Oper} {ks : List Nat} {os : List Oper} : AtN l k o → Picks l ks os → Picks l (k :: ks) (o :: os)

section
variable {P : Program} {md : Region.Mode} {l : List Oper} {Q : Exit → Act → World → Prop}
theorem hput {e : Exit} (hQ : ∀ a (d : Nat) v w, Q e (Act.put a (some d) v) w → Q e a w) (a : Act) (d : Option Nat) (v : Value) (w : World) (h : Q e (Act.put a d v) w) : Q e a w := by
  cases d with
  | none => exact h
  | some d => exact hQ a d v w h
end
end Go.Proofs.YtgfjdkkfgclhjaaGreat
/- Regions that draw their order: what only reckons first, then each of a few orders one by one. No program is in sight. -/
namespace Go.Proofs.YtgfjdkkfgclhjaaGreat

def calmB (o : Oper) : Bool := plainB o || (match o.op with | .nilCheck _ => true | _ => false)
theorem calm_run {P : Program} {o : Oper} {ρ : Operand → Value} (w : World) (hp : calmB o = true) : (∃ u w', (execOp ρ o).run P w = .ok (.value u) w') ∨ ∃ x w', (execOp ρ o).run P w = .halt x w' := by
  unfold calmB at hp
  rw [Bool.or_eq_true] at hp
  rcases hp with hp | hp
  · exact plain_run w hp
  · unfold execOp
    split at hp <;> rename_i ho
    case h_2 => cases hp
    simp only [ho]
    split
    · exact .inr ⟨_, _, rfl⟩
    · exact .inr ⟨_, _, rfl⟩
    · exact .inr ⟨_, _, rfl⟩
    · split
      · exact .inr ⟨_, _, rfl⟩
      · rw [Sem.run_bind]
        cases (program).run P w with
        | halt x w' => exact .inr ⟨x, w', rfl⟩
        | ok p w' =>
          simp only [Result.andThen]
          rw [Sem.run_bind]
          cases (nilAhead (p.types.size + Made.depth) _ _ _).run P w' with
          | halt x w'' => exact .inr ⟨x, w'', rfl⟩
          | ok b w'' =>
            simp only [Result.andThen]
            split
            · exact .inr ⟨_, _, rfl⟩
            · exact .inl ⟨_, _, rfl⟩
      · exact .inl ⟨_, _, rfl⟩
    · exact .inl ⟨_, _, rfl⟩
theorem yields_calm {P : Program} {ops : Array Oper} {o : Oper} {a : Act} {K : Act → Prop} (hp : calmB o = true) (hw : Region.wanted o (yielded ops a.tmps) = true) (h : o.quiet P a AnyW K) :
    ∃ v, Yields P ops o v a ∧ K (a.put o.dst v) := by
  obtain ⟨v, h1, h2⟩ := h
  refine ⟨v, .inl ⟨hw, fun w => ?_⟩, h2⟩
  have h3 := h1 w (anyW w)
  unfold Oper.quietAt at h3
  rcases calm_run (P := P) (ρ := a.eval) w hp with ⟨u, w', e⟩ | ⟨x, w', e⟩
  · rw [e] at h3 ⊢
    obtain ⟨rfl, rfl⟩ := h3
    rfl
  · rw [e] at h3
    cases h3
/-- an operation that runs no code -/
def lightB (o : Oper) : Bool := calmB o || (match o.op with | .load .. | .buildSlice .. | .alloc _ | .lookup .. => true | _ => false)
theorem light_run {P : Program} {o : Oper} {ρ : Operand → Value} (w : World) (hp : lightB o = true) : (∃ u w', (execOp ρ o).run P w = .ok (.value u) w') ∨ ∃ x w', (execOp ρ o).run P w = .halt x w' := by
  unfold lightB at hp
  rw [Bool.or_eq_true] at hp
  rcases hp with hp | hp
  · exact calm_run w hp
  · unfold execOp
    split at hp <;> rename_i ho
    case h_5 => cases hp
    all_goals (simp only [ho]; exact value_run _ _)
/-- one path, or an operation that runs no code -/
def oneB (ops : Array Oper) (i : Nat) (ps : List (List Nat)) : Bool := decide (ps.length = 1) || (((ops[i]?).map lightB).getD false && decide (1 ≤ ps.length))
def pathsB (md : Region.Mode) (ops : Array Oper) : Nat → Array Bool → List (List Nat) → Bool
  | 0, listed, pss => (Region.ready md ops listed).isEmpty && pss.contains []
  | n + 1, listed, pss => if (Region.ready md ops listed).isEmpty then pss.contains [] else (Region.ready md ops listed).all fun i => oneB ops i ((pss.filter fun p => p.head? == some i).map List.tail) && pathsB md ops n (listed.setIfInBounds i true) ((pss.filter fun p => p.head? == some i).map List.tail)
def takenP (md : Region.Mode) (ops : Array Oper) (n : Nat) (pss : List (List Nat)) : List Nat → Array Bool → Bool
  | [], listed => pathsB md ops n listed pss
  | k :: hs, listed => (Region.ready md ops listed).contains k && Region.free md ops listed k && ((ops[k]?).map calmB).getD false && takenP md ops n pss hs (listed.setIfInBounds k true)
def Each (p : List Oper → Prop) : List (List Oper) → Prop
  | [] => True
  | [x] => p x
  | x :: xs => p x ∧ Each p xs
theorem Each.one {p : List Oper → Prop} {x : List Oper} (h : p x) : Each p [x] := h
theorem Each.cons {p : List Oper → Prop} {x : List Oper} {xs : List (List Oper)} (h : Each p (x :: xs)) : p x ∧ Each p xs := by
  cases xs with
  | nil => exact ⟨h, trivial⟩
  | cons y ys => exact h
theorem Each.all {p : List Oper → Prop} : ∀ {xs : List (List Oper)}, Each p xs → ∀ x ∈ xs, p x := by
  intro xs
  induction xs with
  | nil => intro _ x hx; cases hx
  | cons y ys ih =>
    intro h x hx
    have h' := h.cons
    rcases List.mem_cons.1 hx with rfl | hx
    · exact h'.1
    · exact ih h'.2 x hx
inductive PickAll (l : List Oper) : List (List Nat) → List (List Oper) → Prop
  | nil : PickAll l [] []
  | cons {ps : List Nat} {os : List Oper} {pss : List (List Nat)} {oss : List (List Oper)} : Picks l ps os → PickAll l pss oss → PickAll l (ps :: pss) (os :: oss)
theorem PickAll.get {l : List Oper} {pss : List (List Nat)} {oss : List (List Oper)} (h : PickAll l pss oss) : ∀ ps ∈ pss, ∃ os ∈ oss, Picks l ps os := by
  induction h with
  | nil => intro ps h; cases h
  | cons h1 _ ih =>
    intro ps hp
    rcases List.mem_cons.1 hp with rfl | hp
    · exact ⟨_, by simp, h1⟩
    · obtain ⟨os, ho, hk⟩ := ih ps hp
      exact ⟨os, by simp [ho], hk⟩
section
variable {P : Program} {md : Region.Mode} {l : List Oper} {Q : Exit → Act → World → Prop}
theorem wpAny_paths : ∀ (n : Nat) (listed : Array Bool) (pss : List (List Nat)) (a : Act) (w : World), pathsB md l.toArray n listed pss = true → (∀ ps ∈ pss, ∃ os, Picks l ps os ∧ wpList P l.toArray Q os a w) → wpAny P md l.toArray Q n listed a w := by
  intro n
  induction n with
  | zero =>
    intro listed pss a w hB h
    simp only [pathsB, Bool.and_eq_true, List.isEmpty_iff] at hB
    obtain ⟨os, ho, hw⟩ := h [] (by simpa using hB.2)
    cases ho
    exact ⟨hB.1, hw⟩
  | succ n ih =>
    intro listed pss a w hB h
    unfold pathsB at hB
    by_cases he : (Region.ready md l.toArray listed).isEmpty = true
    · rw [if_pos he] at hB
      have he' := List.isEmpty_iff.1 he
      obtain ⟨os, ho, hw⟩ := h [] (by simpa using hB)
      cases ho
      exact ⟨fun _ => hw, fun i hi => by rw [he'] at hi; cases hi⟩
    · rw [if_neg he] at hB
      have he' : Region.ready md l.toArray listed ≠ [] := fun e => he (by rw [e]; rfl)
      refine ⟨fun e => absurd e he', fun i hi => ?_⟩
      have hb := List.all_eq_true.1 hB i hi
      rw [Bool.and_eq_true] at hb
      obtain ⟨hone, hb⟩ := hb
      -- one path at least goes on with i
      have hex : ∀ ps ∈ (pss.filter fun p => p.head? == some i).map List.tail, ∃ o os, l.toArray[i]? = some o ∧ Picks l ps os ∧ wpList P l.toArray Q (o :: os) a w := by
        intro ps hps
        obtain ⟨qs, hq, rfl⟩ := List.mem_map.1 hps
        obtain ⟨hq1, hq2⟩ := List.mem_filter.1 hq
        obtain ⟨os, ho, hw⟩ := h qs hq1
        cases ho with
        | nil => simp at hq2
        | cons h0 hp =>
          rename_i k o ks os
          have hk : k = i := by simpa using hq2
          subst hk
          exact ⟨o, os, by simpa using h0.get, hp, hw⟩
      have hlt := (mem_ready.1 hi).2
      obtain ⟨o, ho, _⟩ := hlt
      have key : ∀ ps ∈ (pss.filter fun p => p.head? == some i).map List.tail, ∃ os, Picks l ps os ∧ wpList P l.toArray Q (o :: os) a w := by
        intro ps hps
        obtain ⟨o', os, e1, e2, e3⟩ := hex ps hps
        rw [ho] at e1
        cases e1
        exact ⟨os, e2, e3⟩
      generalize hps : (pss.filter fun p => p.head? == some i).map List.tail = qss at hone hb key
      unfold wpOp
      simp only [ho]
      unfold oneB at hone
      rw [Bool.or_eq_true] at hone
      unfold wpList at key
      by_cases hw : Region.wanted o (yielded l.toArray a.tmps) = true
      · simp only [hw, if_true] at key ⊢
        rcases hone with h1 | h1
        · have h1 := of_decide_eq_true h1
          obtain ⟨q, rfl⟩ : ∃ q, qss = [q] := by
            match qss, h1 with
            | [q], _ => exact ⟨q, rfl⟩
          obtain ⟨os, e2, e3⟩ := key q (by simp)
          exact e3.imp (Oper.wp_mono (fun a' w' h' => ih _ _ a' w' hb (fun ps hp => by
            obtain rfl : ps = q := by simpa using hp
            exact ⟨os, e2, h'⟩))) id
        · rw [Bool.and_eq_true, ho] at h1
          simp only [Option.map_some, Option.getD_some] at h1
          obtain ⟨hl, h1⟩ := h1
          have h1 := of_decide_eq_true h1
          by_cases has : o.asks P a w ∧ LetsOut Q
          · exact .inr has
          · left
            have key2 : ∀ ps ∈ qss, ∃ os, Picks l ps os ∧ o.wp P a w (wpList P l.toArray Q os) Q := by
              intro ps hp
              obtain ⟨os, e2, e3⟩ := key ps hp
              exact ⟨os, e2, e3.resolve_right has⟩
            unfold Oper.wp at key2 ⊢
            rcases light_run (P := P) (ρ := a.eval) w hl with ⟨u, w', e⟩ | ⟨x, w', e⟩
            · rw [e] at key2 ⊢
              exact ih _ _ _ _ hb key2
            · rw [e] at key2 ⊢
              obtain ⟨q, hq⟩ : ∃ q, q ∈ qss := by
                match qss, h1 with
                | q :: _, _ => exact ⟨q, by simp⟩
              obtain ⟨os, _, e3⟩ := key2 q hq
              cases x <;> exact e3
      · simp only [hw, Bool.false_eq_true, if_false] at key ⊢
        exact ih _ _ _ _ hb key
theorem wpAny_takenP (hs : Region.noSelect l.toArray = true) (hQ : ∀ c a (d : Nat) v w, Q (.panic c) (Act.put a (some d) v) w → Q (.panic c) a w) (n : Nat) (pss : List (List Nat)) (oss : List (List Oper)) (hk : PickAll l pss oss) : ∀ (hds : List Nat) (os : List Oper) (listed : Array Bool) (a : Act) (w : World), Picks l hds os → takenP md l.toArray n pss hds listed = true →
    wpQuiet P l.toArray AnyW (fun a' => Each (fun ks' => wpList P l.toArray Q ks' a' w) oss) os a → wpAny P md l.toArray Q (hds.length + n) listed a w := by
  intro hds
  induction hds with
  | nil =>
    intro os listed a w hp hB h
    cases hp
    rw [List.length_nil, Nat.zero_add]
    refine wpAny_paths n listed pss a w hB (fun ps hps => ?_)
    obtain ⟨os, ho, hp⟩ := hk.get ps hps
    exact ⟨os, hp, Each.all h os ho⟩
  | cons k hds ih =>
    intro os listed a w hp hB h
    cases hp with
    | cons h0' hp =>
      rename_i o os
      have h0 : l.toArray[k]? = some o := by simpa using h0'.get
      simp only [takenP, Bool.and_eq_true, h0, Option.map_some, Option.getD_some] at hB
      obtain ⟨⟨⟨hr, hf⟩, hpl⟩, hB'⟩ := hB
      rw [List.length_cons, Nat.add_right_comm]
      unfold wpQuiet at h
      by_cases hw : Region.wanted o (yielded l.toArray a.tmps) = true
      · rw [if_pos hw] at h
        obtain ⟨v, hy, hK⟩ := yields_calm hpl hw h
        exact wpAny_take h0 hs hf hr (fun c a w h => hput (hQ c) a _ _ w h) hy (ih os _ _ w hp hB' hK)
      · rw [if_neg hw] at h
        exact wpAny_take h0 hs hf hr (fun c a w h => hput (hQ c) a _ _ w h) (.inr ⟨by simpa using hw, rfl⟩) (ih os _ _ w hp hB' h)
theorem wp_region_paths {id : Nat} {a : Act} {w : World} (n : Nat) (hds : List Nat) (pss : List (List Nat)) {os : List Oper} {oss : List (List Oper)} (hm : P.follows .mixedOrders = true) (hl : hds.length + n = l.toArray.size) (hs : Region.noSelect l.toArray = true) (hB : takenP .any l.toArray n pss hds (Array.replicate l.toArray.size false) = true) (hp : Picks l hds os) (hk : PickAll l pss oss)
    (hQ : ∀ c a (d : Nat) v w, Q (.panic c) (Act.put a (some d) v) w → Q (.panic c) a w) (h : wpQuiet P l.toArray AnyW (fun a' => Each (fun ks' => wpList P l.toArray Q ks' a' w.drew) oss) os a) : (Code.region id l.toArray true).wp P Q a w := by
  refine wp_region_any hm ?_
  have := wpAny_takenP (P := P) (md := .any) (Q := Q) hs hQ n pss oss hk hds os _ a w.drew hp hB h
  rw [hl] at this
  exact this
end
end Go.Proofs.YtgfjdkkfgclhjaaGreat
/- The arena's promise; mk and cut. -/
namespace Go.Proofs.YtgfjdkkfgclhjaaGreat.Bd
open Go.RowKit Go.Proofs.YtgfjdkkfgclhjaaGreat Go.Proofs.YtgfjdkkfgclhjaaGreat.Lx Go.Maps

def ByOK (nd : List Nd) (f : Nd → Option Int) : Prop := (∀ x c, f x = some c → ∃ i : Nat, c = i ∧ 2 ≤ i ∧ nd[i]? = some x) ∧ ∀ (i : Nat) x, 2 ≤ i → nd[i]? = some x → f x = some (i : Int)
/-- r is g where f is true, else h -/
def OkIte (nd nd' : List Nd) (f g h r : Nat) : Prop := ∀ (S : Nat → Bool) (tf tg th : Nat) (F G H : Env → Bool), Den S nd f tf F → Den S nd g tg G → Den S nd h th H → ∃ t, min tf (min tg th) ≤ t ∧ Den S nd' r t (fun ρ => if F ρ then G ρ else H ρ)
def ItOK (nd : List Nd) (f : Nd → Option Int) : Prop := ∀ a b c i, f (a, b, c) = some i → ∃ r : Nat, i = r ∧ r < nd.length ∧ a < nd.length ∧ b < nd.length ∧ c < nd.length ∧ OkIte nd nd a b c r
def OkMk (nd nd' : List Nd) (v lo hi r : Nat) : Prop := ∀ (S : Nat → Bool) (tl th : Nat) (Fl Fh : Env → Bool), S v = true → Den S nd lo tl Fl → Den S nd hi th Fh → ∃ t, v ≤ t ∧ Den S nd' r t (fun ρ => if ρ v then Fh ρ else Fl ρ)
structure Inv (s : St) (fb ft : Nd → Option Int) : Prop where
  by_ : ByOK s.nd fb
  it : ItOK s.nd ft
  wf : WF s.nd
  nm : s.nd.length ≤ s.m + 2
  gi : ∀ x, s.gi x = true → ∃ i : Nat, x = i ∧ i < s.nd.length
def Ar (w : World) (k : Blk) (s : St) : Prop := ∃ fb ft, Hp w k s fb ft ∧ Inv s fb ft
/-- more nodes; nothing else -/
structure Up (s s' : St) : Prop where
  vs : s'.vs = s.vs
  ms : s'.ms = s.ms
  gi : s'.gi = s.gi
  gn : s'.gn = s.gn
  he : s'.he = s.he
  hn : s'.hn = s.hn
  nd : ∃ ex, s'.nd = s.nd ++ ex
  m : s.m ≤ s'.m
theorem Up.refl (s : St) : Up s s := ⟨rfl, rfl, rfl, rfl, rfl, rfl, ⟨[], by simp⟩, Nat.le_refl _⟩
theorem Up.trans {a b c : St} (h : Up a b) (h2 : Up b c) : Up a c := by
  obtain ⟨e1, h1⟩ := h.nd
  obtain ⟨e2, h2'⟩ := h2.nd
  exact ⟨h2.vs.trans h.vs, h2.ms.trans h.ms, h2.gi.trans h.gi, h2.gn.trans h.gn, h2.he.trans h.he, h2.hn.trans h.hn, ⟨e1 ++ e2, by rw [h2', h1, List.append_assoc]⟩, Nat.le_trans h.m h2.m⟩
theorem Den.up {S : Nat → Bool} {s s' : St} (hu : Up s s') {i t : Nat} {F : Env → Bool} (h : Den S s.nd i t F) : Den S s'.nd i t F := by
  obtain ⟨ex, e⟩ := hu.nd
  rw [e]; exact h.append
theorem Den.shrink {S : Nat → Bool} {nd ex : List Nd} {i t : Nat} {F : Env → Bool} (h : Den S (nd ++ ex) i t F) : i < nd.length → Den S nd i t F := by
  induction h with
  | zero => intro _; exact .zero
  | one => intro _; exact .one
  | node h h2 hl hh hne h1 h3 hv hS _ _ il ih =>
    intro hi
    exact .node (by rw [List.getElem?_append_left hi] at h; exact h) h2 hl hh hne h1 h3 hv hS (il (by omega)) (ih (by omega))
theorem OkIte.grow {nd ex : List Nd} {f g h r : Nat} (hf : f < nd.length) (hg : g < nd.length) (hh : h < nd.length) (ho : OkIte nd nd f g h r) : OkIte (nd ++ ex) (nd ++ ex) f g h r := by
  intro S tf tg th F G H d1 d2 d3
  obtain ⟨t, ht, d⟩ := ho S tf tg th F G H (d1.shrink hf) (d2.shrink hg) (d3.shrink hh)
  exact ⟨t, ht, d.append⟩
theorem ItOK.grow {nd ex : List Nd} {f : Nd → Option Int} (h : ItOK nd f) : ItOK (nd ++ ex) f := by
  intro a b c i hi
  obtain ⟨r, e, h0, h1, h2, h3, h4⟩ := h a b c i hi
  have : (nd ++ ex).length = nd.length + ex.length := List.length_append
  exact ⟨r, e, by omega, by omega, by omega, by omega, h4.grow h1 h2 h3⟩
theorem ByOK.push {nd : List Nd} {f : Nd → Option Int} (h : ByOK nd f) (x : Nd) (h2 : 2 ≤ nd.length) (hx : f x = none) : ByOK (nd ++ [x]) (fun y => if y = x then some (nd.length : Int) else f y) := by
  refine ⟨fun y c hc => ?_, fun i y hi hy => ?_⟩
  · simp only at hc
    split at hc
    · rename_i e
      subst e
      cases hc
      exact ⟨nd.length, rfl, h2, by simp⟩
    · obtain ⟨i, e1, e2, e3⟩ := h.1 y c hc
      exact ⟨i, e1, e2, by rw [List.getElem?_append_left (lt_of_some e3)]; exact e3⟩
  · have hlt := lt_of_some hy
    simp only [List.length_append, List.length_singleton] at hlt
    rcases Nat.lt_or_ge i nd.length with a | a
    · rw [List.getElem?_append_left a] at hy
      have := h.2 i y hi hy
      simp only
      rw [if_neg (fun e => by rw [e, hx] at this; cases this)]
      exact this
    · obtain rfl : i = nd.length := by omega
      have : x = y := by simpa using hy
      subst this
      simp
theorem Den.det2 {S S' : Nat → Bool} {nd : List Nd} {i t t' : Nat} {F F' : Env → Bool} (h : Den S nd i t F) (h' : Den S' nd i t' F') : t = t' ∧ F = F' := h.all.det h'.all
/-- what mk answers, in plain words -/
theorem mk_same {nd : List Nd} {v lo : Nat} {S0 : Nat → Bool} {tl0 : Nat} {F0 : Env → Bool} (d0 : Den S0 nd lo tl0 F0) (h : v ≤ tl0) : OkMk nd nd v lo lo lo := by
  intro S tl th Fl Fh hS d1 d2
  obtain ⟨rfl, rfl⟩ := d1.det2 d2
  obtain ⟨rfl, rfl⟩ := d0.det2 d1
  refine ⟨tl0, h, ?_⟩
  have e : (fun ρ : Env => if ρ v then F0 ρ else F0 ρ) = F0 := by funext ρ; simp
  rw [e]; exact d1
theorem mk_there {nd : List Nd} (hw : WF nd) {v lo hi i tl0 th0 : Nat} {S0 : Nat → Bool} {Fl0 Fh0 : Env → Bool} (dl : Den S0 nd lo tl0 Fl0) (dh : Den S0 nd hi th0 Fh0) (h1 : v < tl0) (h2 : v < th0) (hv : v < 256) (h : nd[i]? = some (v, lo, hi)) : OkMk nd nd v lo hi i := by
  intro S tl th Fl Fh hS d1 d2
  obtain ⟨rfl, rfl⟩ := dl.det2 d1
  obtain ⟨rfl, rfl⟩ := dh.det2 d2
  exact ⟨v, Nat.le_refl _, (mk_old hw d1 d2 h1 h2 hv hS h).2⟩
theorem mk_new {nd : List Nd} (hw : WF nd) {v lo hi tl0 th0 : Nat} {S0 : Nat → Bool} {Fl0 Fh0 : Env → Bool} (dl : Den S0 nd lo tl0 Fl0) (dh : Den S0 nd hi th0 Fh0) (h1 : v < tl0) (h2 : v < th0) (hv : v < 256) (hne : lo ≠ hi) (hnew : ∀ i : Nat, nd[i]? ≠ some (v, lo, hi)) : OkMk nd (nd ++ [(v, lo, hi)]) v lo hi nd.length := by
  intro S tl th Fl Fh hS d1 d2
  obtain ⟨rfl, rfl⟩ := dl.det2 d1
  obtain ⟨rfl, rfl⟩ := dh.det2 d2
  exact ⟨v, Nat.le_refl _, (hw.push d1 d2 h1 h2 hv hS hne hnew).2⟩
theorem Inv.fresh {s : St} {fb ft : Nd → Option Int} (I : Inv s fb ft) {v lo hi : Nat} (hv : v < 256) (hf : fb (v, lo, hi) = none) : ∀ i : Nat, s.nd[i]? ≠ some (v, lo, hi) := by
  intro i h
  rcases (by omega : i = 0 ∨ i = 1 ∨ 2 ≤ i) with rfl | rfl | h2
  · rw [I.wf.e0] at h; cases h; omega
  · rw [I.wf.e1] at h; cases h; omega
  · have := I.by_.2 i _ h2 h
    rw [hf] at this
    cases this
theorem Inv.push {s : St} {fb ft : Nd → Option Int} (I : Inv s fb ft) {S : Nat → Bool} {v lo hi tl th : Nat} {Fl Fh : Env → Bool} (dl : Den S s.nd lo tl Fl) (dh : Den S s.nd hi th Fh) (h1 : v < tl) (h2 : v < th) (hv : v < 256) (hS : S v = true) (hne : lo ≠ hi) (hf : fb (v, lo, hi) = none) :
    Inv { s with nd := s.nd ++ [(v, lo, hi)], m := s.m + 1 } (fun x => if x = (v, lo, hi) then some (s.nd.length : Int) else fb x) ft ∧ OkMk s.nd (s.nd ++ [(v, lo, hi)]) v lo hi s.nd.length := by
  have hn := I.fresh hv hf
  refine ⟨⟨I.by_.push _ I.wf.two hf, I.it.grow, (I.wf.push dl dh h1 h2 hv hS hne hn).1, ?_, fun x hx => ?_⟩, mk_new I.wf dl dh h1 h2 hv hne hn⟩
  · have := I.nm
    simp only [List.length_append, List.length_singleton]
    omega
  · obtain ⟨i, e, hi⟩ := I.gi x hx
    exact ⟨i, e, by simp only [List.length_append, List.length_singleton]; omega⟩
theorem infoN : (Tryz.prog.info? 44).map (fun i => (i.zero, i.size, i.bytes)) = some (some (.agg #[.int .i32 0, .int .i32 0, .int .i32 0]), 3, 12) := by kernel_rfl
theorem info_at {P : Program} {t : TypeId} {z : Option Value} {n m : Nat} (h : (P.info? t).map (fun i => (i.zero, i.size, i.bytes)) = some (z, n, m)) : ∃ i, P.info? t = some i ∧ i.zero = z ∧ i.size = n ∧ i.bytes = m := by
  cases hi : P.info? t with
  | none => rw [hi] at h; cases h
  | some i =>
    rw [hi] at h
    simp only [Option.map_some, Option.some.injEq, Prod.mk.injEq] at h
    exact ⟨i, rfl, h⟩

set_option maxHeartbeats 4000000 in
set_option maxRecDepth 100000 in
theorem mk_any (k : Blk) (s : St) (v lo hi : Nat) (w : World) (hA : Ar w k s) (hm : s.m + 1 ≤ 1000000000) (S : Nat → Bool) (tl th : Nat) (Fl Fh : Env → Bool) (dl : Den S s.nd lo tl Fl) (dh : Den S s.nd hi th Fh) (h1 : v < tl) (h2 : v < th) (hv : v < 256) (hS : S v = true) :
    Calls Tryz.prog 72 #[.pointer (some ⟨k.p, 0, none⟩), .int .i32 v, .int .i32 lo, .int .i32 hi] w fun e w' => ∃ k' s' r, e = .returned (.int .i32 (r : Nat)) ∧ Ar w' k' s' ∧ Turn k k' w w' ∧ Up s s' ∧ s'.m ≤ s.m + 1 ∧ OkMk s.nd s'.nd v lo hi r := by
  obtain ⟨fb, ft, H, I⟩ := hA
  have hlo := dl.lt I.wf
  have hhi := dh.lt I.wf
  have hnm := I.nm
  by_cases heq : (lo : Int) = hi
  · have hd : ((lo : Int) == hi) = true := by simpa using heq
    have hl : lo = hi := by omega
    subst hl
    have HA : Hid (Ar w k s) := ⟨fb, ft, H, I⟩
    have HD := hide (mk_same dl (Nat.le_of_lt h1))
    clear H I dl dh
    go_enter Tryz.func72, Tryz.ntmps72
    go_wp2_with fail
    go_ret
    exact ⟨k, s, lo, rfl, HA.out, Turn.refl _ _, Up.refl _, Nat.le_succ _, HD.out⟩
  · have hd : ((lo : Int) == hi) = false := by simpa using heq
    have hne : lo ≠ hi := by omega
    obtain ⟨kl, hkl⟩ := keyN (v, lo, hi) ⟨by simp; omega, by simp; omega, by simp; omega⟩
    have hbl := bel_one w (.cells #[.int .i32 v, .int .i32 lo, .int .i32 hi] 44)
    have H1 := H.below hbl
    have ht1 := Turn.below (k := k) hbl
    have hnf : ¬ fp k w.heap.size := fun hf => by have := H.lt _ hf; omega
    have n0 : (w.alloc (.cells #[.int .i32 v, .int .i32 lo, .int .i32 hi] 44)).heap[w.heap.size]? = some (.cells #[.int .i32 v, .int .i32 lo, .int .i32 hi] 44 (0, 0)) := heap_new _ _
    go_enter Tryz.func72, Tryz.ntmps72
    go_wp2_with fail
    generalize hW : w.alloc (.cells #[.int .i32 v, .int .i32 lo, .int .i32 hi] 44) = W at *
    have c0 : ∀ x, (lat W x).cell? ⟨w.heap.size, 0, none⟩ = some (.int .i32 v) := lat_cell (cell_heap n0 rfl)
    have c1 : ∀ x, (lat W x).cell? ⟨w.heap.size, 1, none⟩ = some (.int .i32 lo) := lat_cell (cell_heap n0 rfl)
    have c2 : ∀ x, (lat W x).cell? ⟨w.heap.size, 2, none⟩ = some (.int .i32 hi) := lat_cell (cell_heap n0 rfl)
    have c3 := lat_cell H1.c3
    have lk : ∀ x, (Instr.lookup 46 (.map (some k.bm)) (.agg #[.int .i32 v, .int .i32 lo, .int .i32 hi]) true).run Tryz.prog (lat W x) = .ok (.tuple #[.int .i32 ((fb (v, lo, hi)).getD 0), .bool (fb (v, lo, hi)).isSome]) (lat W x) :=
      fun x => ((H1.below (lat_below W x)).bm).look keyedN Tryz.underlying46 Tryz.underlying21 (zero3 _) hkl
    cases hf : fb (v, lo, hi) with
    | some c =>
      obtain ⟨i, rfl, hi2, hget⟩ := I.by_.1 _ _ hf
      rw [hf] at lk
      simp only [Option.getD_some, Option.isSome_some] at lk
      have HA : Hid (∀ x, Ar (lat W x) k s) := fun x => ⟨fb, ft, H1.below (lat_below W x), I⟩
      have HT : Hid (∀ x, Turn k k w (lat W x)) := fun x => ht1.trans (Turn.below (lat_below W x))
      have HD := hide (mk_there I.wf dl dh h1 h2 hv hget)
      clear H I dl dh H1 ht1 hbl
      refine wp_region_lat (by kernel_rfl) (by kernel_rfl) ?_
      repeat (first | go_big_quiet_step ((fail)) | quiet_step ((fail)))
      refine wpQuiet_nil ?_
      intro _ hlat
      obtain ⟨wq, rfl⟩ := hlat
      go_wp2_with fail
      go_ret
      exact ⟨k, s, i, rfl, HA.out _, HT.out _, Up.refl _, Nat.le_succ _, HD.out⟩
    | none =>
      rw [hf] at lk
      simp only [Option.getD_none, Option.isSome_none] at lk
      refine wp_region_lat (by kernel_rfl) (by kernel_rfl) ?_
      repeat (first | go_big_quiet_step ((fail)) | quiet_step ((fail)))
      refine wpQuiet_nil ?_
      intro _ hlat
      obtain ⟨wq, rfl⟩ := hlat
      have H2 := hide (H1.below (lat_below W wq))
      have HT2 := hide (ht1.trans (Turn.below (k := k) (lat_below W wq)))
      have HN2 := hide (heapB (lat_below W wq) n0)
      have HS2 := hide (Nat.le_trans hbl.size (lat_below W wq).size)
      clear c0 c1 c2 c3 lk H1 ht1 hbl n0
      generalize lat W wq = w2 at *
      have c2 := H2.out.c2
      go_wp2_with fail
      obtain ⟨i1, hi1, iz1, is1, ib1⟩ := info_at infoN
      have n1 := HN2.out
      have d0 : ∀ o, ((w2.drew).alloc o).cell? ⟨w.heap.size, 0, none⟩ = some (.int .i32 v) := fun o => cell_heap (heap_old n1) rfl
      have d1 : ∀ o, ((w2.drew).alloc o).cell? ⟨w.heap.size, 1, none⟩ = some (.int .i32 lo) := fun o => cell_heap (heap_old n1) rfl
      have d2 : ∀ o, ((w2.drew).alloc o).cell? ⟨w.heap.size, 2, none⟩ = some (.int .i32 hi) := fun o => cell_heap (heap_old n1) rfl
      have d3 : ∀ o, (w2.alloc o).cell? ⟨k.p, 2, none⟩ = some (.slice (some ⟨k.g, 0, none⟩) s.nd.length k.c) := fun o => (H2.out.below ((Below.refl _ w2).alloc (Nat.le_refl _) o)).c2
      have e0 : w2.cell? ⟨w.heap.size, 0, none⟩ = some (.int .i32 v) := cell_heap n1 rfl
      have e1 : w2.cell? ⟨w.heap.size, 1, none⟩ = some (.int .i32 lo) := cell_heap n1 rfl
      have e2 : w2.cell? ⟨w.heap.size, 2, none⟩ = some (.int .i32 hi) := cell_heap n1 rfl
      have hB3 := hide ((Below.refl w2.heap.size w2).drew.alloc (Nat.le_refl _) (Obj.cells #[.int .i32 v, .int .i32 lo, .int .i32 hi] 44))
      have H3 := hide (H2.out.below hB3.out)
      have HT3 := hide (HT2.out.trans (Turn.below (k := k) hB3.out))
      have n3 := hide (heapB hB3.out n1)
      have s3 := hide (Nat.le_trans HS2.out hB3.out.size)
      have q1 : s.m < maxLen := by unfold maxLen; omega
      have q2 : (Lit.int .i32 s.nd.length).wf = true := wf3 (by omega) (by omega)
      refine wp_region_paths 7 [0, 1, 2, 3] [[4, 5, 6, 7, 8, 9, 10], [5, 4, 6, 7, 8, 9, 10], [5, 6, 4, 7, 8, 9, 10]] (by kernel_rfl) (by kernel_rfl) (by kernel_rfl) (by kernel_rfl) (.cons (.zero) (.cons (.succ (.zero)) (.cons (.succ (.succ (.zero))) (.cons (.succ (.succ (.succ (.zero)))) .nil)))) (.cons (.cons (.succ (.succ (.succ (.succ (.zero))))) (.cons (.succ (.succ (.succ (.succ (.succ (.zero)))))) (.cons (.succ (.succ (.succ (.succ (.succ (.succ (.zero))))))) (.cons (.succ (.succ (.succ (.succ (.succ (.succ (.succ (.zero)))))))) (.cons (.succ (.succ (.succ (.succ (.succ (.succ (.succ (.succ (.zero))))))))) (.cons (.succ (.succ (.succ (.succ (.succ (.succ (.succ (.succ (.succ (.zero)))))))))) (.cons (.succ (.succ (.succ (.succ (.succ (.succ (.succ (.succ (.succ (.succ (.zero))))))))))) .nil))))))) (.cons (.cons (.succ (.succ (.succ (.succ (.succ (.zero)))))) (.cons (.succ (.succ (.succ (.succ (.zero))))) (.cons (.succ (.succ (.succ (.succ (.succ (.succ (.zero))))))) (.cons (.succ (.succ (.succ (.succ (.succ (.succ (.succ (.zero)))))))) (.cons (.succ (.succ (.succ (.succ (.succ (.succ (.succ (.succ (.zero))))))))) (.cons (.succ (.succ (.succ (.succ (.succ (.succ (.succ (.succ (.succ (.zero)))))))))) (.cons (.succ (.succ (.succ (.succ (.succ (.succ (.succ (.succ (.succ (.succ (.zero))))))))))) .nil))))))) (.cons (.cons (.succ (.succ (.succ (.succ (.succ (.zero)))))) (.cons (.succ (.succ (.succ (.succ (.succ (.succ (.zero))))))) (.cons (.succ (.succ (.succ (.succ (.zero))))) (.cons (.succ (.succ (.succ (.succ (.succ (.succ (.succ (.zero)))))))) (.cons (.succ (.succ (.succ (.succ (.succ (.succ (.succ (.succ (.zero))))))))) (.cons (.succ (.succ (.succ (.succ (.succ (.succ (.succ (.succ (.succ (.zero)))))))))) (.cons (.succ (.succ (.succ (.succ (.succ (.succ (.succ (.succ (.succ (.succ (.zero))))))))))) .nil))))))) .nil))) (fun _ _ _ _ _ h => h) ?_
      repeat (first | go_big_quiet_step ((fail)) | quiet_step ((fail)))
      refine wpQuiet_nil ?_
      refine ⟨?_, ?_, Each.one ?_⟩
      all_goals (
        go_wp2_with (at_builtin; refine wpList_append_own_at _ rfl (.tmp 41) (.tmp 43) 45 rfl 0 44 i1 _ 3 12 Tryz.underlying45 hi1 iz1 is1 ib1 rfl (by decide) _ s.nd.length (cellsN s.nd) rfl H3.out.v ⟨w2.heap.size, 0, none⟩ 1 1 [.int .i32 v, .int .i32 lo, .int .i32 hi] rfl rfl ?cells ?ones ?c63 ?cby ?cbase ?_)
        case cells =>
          intro j u hj
          match j, hj with
          | 0, hj => simp at hj; subst hj; simp [Addr.add, go_sem]
          | 1, hj => simp at hj; subst hj; simp [Addr.add, go_sem]
          | 2, hj => simp at hj; subst hj; simp [Addr.add, go_sem]
          | j + 3, hj => simp at hj
        case ones => simp [Value.oneCell']
        case c63 => unfold maxLen; omega
        case cby => omega
        case cbase => exact Nat.zero_le _
        intro v' w4 hown' hgrow _ hat
        obtain ⟨g', c', rfl⟩ : ∃ g' c', v' = .slice (some ⟨g', 0, none⟩) (s.nd.length + 1) c' := by
          rcases hown'.2 with ⟨_, h0⟩ | ⟨g, cap, cur, h0, _⟩
          · omega
          · exact ⟨g, cap, h0⟩
        have hg' : g' = k.g ∨ _ ≤ g' := hat.imp (fun e => by simpa [Value.ownBlock] using e) (fun e => Nat.le_of_eq (by simpa [Value.ownBlock] using e.symm))
        obtain ⟨H5, T5⟩ := H3.out.append (x := (v, lo, hi)) hown' hgrow (hg'.imp id (fun h => by simpa using h))
        have hfr : w4.frozen? ⟨k.p, 2, none⟩ = false := frozen_heap (heap_grown H3.out.p hgrow (fun e => H3.out.pg (by injection e with e; exact e.symm)))
        have hcl : w4.cell? ⟨k.p, 2, none⟩ = some (.slice (some ⟨k.g, 0, none⟩) s.nd.length k.c) := cell_heap (heap_grown H3.out.p hgrow (fun e => H3.out.pg (by injection e with e; exact e.symm))) rfl
        have n5 := hide (T5.heap n3.out hnf)
        have HT5 := hide (HT3.out.trans T5)
        have s5 := hide (Nat.le_trans s3.out T5.size)
        have HH5 := hide H5
        clear hown' hgrow hat hg' H5 T5 d0 d1 d2 d3 e0 e1 e2
        go_wp2_with fail
        generalize w4.setCell ⟨k.p, 2, none⟩ (.slice (some ⟨g', 0, none⟩) (s.nd.length + 1) c') = w5 at *
        have d0 : w5.drew.cell? ⟨w.heap.size, 0, none⟩ = some (.int .i32 v) := cell_heap n5.out rfl
        have d1 : w5.drew.cell? ⟨w.heap.size, 1, none⟩ = some (.int .i32 lo) := cell_heap n5.out rfl
        have d2 : w5.drew.cell? ⟨w.heap.size, 2, none⟩ = some (.int .i32 hi) := cell_heap n5.out rfl
        have d3 : w5.drew.cell? ⟨k.p, 3, none⟩ = some (.map (some k.bm)) := HH5.out.drew.c3
        go_still_tail 6, (by kernel_rfl)
        change wpList _ _ _ _ _ w5.drew
        have HH6 := hide HH5.out.drew
        have HT6 := hide (HT5.out.trans (Turn.below ((Below.refl _ w5).drew)))
        generalize w5.drew = w6 at *
        go_wp2_with (at_mapUpdate; go_must (refine wpList_put rfl (.tmp 50) (.tmp 51) (.tmp 52) rfl HH6.out.bm keyedN Tryz.underlying46 Tryz.underlying21 q1 encN_inj rfl (v, lo, hi) kl rfl hkl s.nd.length rfl q2 ?_))
        intro w7 hmi hmt
        obtain ⟨H7, T7⟩ := HH6.out.bmPut hmi hmt
        have HR : Hid (Ar w7 _ _) := ⟨_, _, H7, (I.push dl dh h1 h2 hv hS hne hf).1⟩
        have HT7 := hide (HT6.out.trans T7)
        have HD := hide (I.push dl dh h1 h2 hv hS hne hf).2
        clear hmi hmt H7 T7 I dl dh
        go_wp2_with fail
        go_ret
        exact ⟨_, _, s.nd.length, rfl, HR.out, HT7.out, ⟨rfl, rfl, rfl, rfl, rfl, rfl, ⟨_, rfl⟩, Nat.le_succ _⟩, Nat.le_refl _, HD.out⟩)
end Go.Proofs.YtgfjdkkfgclhjaaGreat.Bd
/- The visit that give makes: the nodes beneath one that are not held, each once. -/
namespace Go.Proofs.YtgfjdkkfgclhjaaGreat.Bd
open Go.RowKit Go.Proofs.YtgfjdkkfgclhjaaGreat Go.Proofs.YtgfjdkkfgclhjaaGreat.Lx Go.Maps

/-- the visit, in plain words: fr was met already -/
def vis (nd : List Nd) (he : Int → Bool) : Nat → List Nat → Nat → List Nat
  | 0, fr, _ => fr
  | n + 1, fr, f => if f < 2 ∨ f ∈ fr ∨ he f = true then fr else match nd[f]? with
    | some (_, lo, hi) => vis nd he n (vis nd he n (fr ++ [f]) lo) hi
    | none => fr
/-- what is met: each once, none held, inner nodes all -/
structure Met (nd : List Nd) (he : Int → Bool) (fr : List Nat) : Prop where
  nodup : fr.Nodup
  all : ∀ x ∈ fr, 2 ≤ x ∧ x < nd.length ∧ he x = false
theorem Met.nil (nd : List Nd) (he : Int → Bool) : Met nd he [] := ⟨List.nodup_nil, fun _ h => by cases h⟩
theorem Met.push {nd : List Nd} {he : Int → Bool} {fr : List Nat} (h : Met nd he fr) {f : Nat} (h1 : ¬ (f < 2 ∨ f ∈ fr ∨ he f = true)) (h2 : f < nd.length) : Met nd he (fr ++ [f]) := by
  simp only [not_or] at h1
  obtain ⟨a, b, c⟩ := h1
  refine ⟨List.nodup_append.2 ⟨h.nodup, by simp, fun x hx y hy e => ?_⟩, fun x hx => ?_⟩
  · have : y = f := by simpa using hy
    subst this
    subst e
    exact b hx
  · rcases List.mem_append.1 hx with hx | hx
    · exact h.all x hx
    · have : x = f := by simpa using hx
      subst this
      exact ⟨by omega, h2, by simpa using c⟩
theorem nodup_len {fr : List Nat} {n : Nat} (h : fr.Nodup) (hl : ∀ x ∈ fr, x < n) : fr.length ≤ n := by
  have := List.Nodup.length_le_of_subset (l₂ := List.range n) h (fun x hx => by simpa using hl x hx)
  simpa using this
theorem Met.len {nd : List Nd} {he : Int → Bool} {fr : List Nat} (h : Met nd he fr) : fr.length ≤ nd.length := nodup_len h.nodup (fun x hx => (h.all x hx).2.1)
theorem vis_met {nd : List Nd} (hw : WF nd) {he : Int → Bool} : ∀ (n : Nat) (fr : List Nat) (f : Nat), f < nd.length → Met nd he fr → Met nd he (vis nd he n fr f) := by
  intro n
  induction n with
  | zero => intro fr f _ h; exact h
  | succ n ih =>
    intro fr f hf h
    unfold vis
    split
    · exact h
    · rename_i h1
      obtain ⟨⟨v, lo, hi⟩, hx⟩ : ∃ x, nd[f]? = some x := ⟨_, List.getElem?_eq_getElem hf⟩
      obtain ⟨t, F, d⟩ := hw.den f hf
      obtain ⟨lo', hi', _, _, _, _, hr, r1, r2, _⟩ := d.row (by omega)
      rw [hx] at hr
      simp only [Option.some.injEq, Prod.mk.injEq] at hr
      obtain ⟨_, rfl, rfl⟩ := hr
      rw [hx]
      simp only
      exact ih _ _ (by omega) (ih _ _ (by omega) (h.push h1 hf))
def seenB (fr : List Nat) (x : Int) : Bool := decide (0 ≤ x ∧ (x < 2 ∨ x.toNat ∈ fr))
theorem seenB_nat (fr : List Nat) (f : Nat) : seenB fr f = decide (f < 2 ∨ f ∈ fr) := by
  unfold seenB
  congr 1
  simp only [Int.toNat_natCast, eq_iff_iff]
  constructor
  · rintro ⟨_, h | h⟩
    · left; omega
    · right; exact h
  · rintro (h | h)
    · exact ⟨by omega, by left; omega⟩
    · exact ⟨by omega, by right; exact h⟩
theorem seenB_push (fr : List Nat) (f : Nat) : (fun x : Int => decide (x = (f : Int)) || seenB fr x) = seenB (fr ++ [f]) := by
  funext x
  unfold seenB
  rw [← Bool.decide_or]
  congr 1
  simp only [List.mem_append, List.mem_singleton, eq_iff_iff]
  constructor
  · rintro (h | ⟨h1, h2 | h2⟩)
    · subst h; exact ⟨by omega, by right; right; omega⟩
    · exact ⟨h1, .inl h2⟩
    · exact ⟨h1, .inr (.inl h2)⟩
  · rintro ⟨h1, h2 | h2 | h2⟩
    · exact .inr ⟨h1, .inl h2⟩
    · exact .inr ⟨h1, .inr h2⟩
    · left; omega

/-- what the visit has in memory -/
structure Vs (w0 w : World) (p b1 b2 b3 b4 sb : Nat) (fr : List Nat) : Prop where
  c1 : w.heap[b1]? = some (.cells #[.map (some sb)] 49 (0, 0))
  c2 : w.heap[b2]? = some (.cells #[.pointer (some ⟨p, 0, none⟩)] 24 (0, 0))
  c4 : w.heap[b4]? = some (.cells #[.func (.func 93) #[] #[.pointer (some ⟨b1, 0, none⟩), .pointer (some ⟨b2, 0, none⟩), .pointer (some ⟨b3, 0, none⟩), .pointer (some ⟨b4, 0, none⟩)]] 85 (0, 0))
  seen : MSet Tryz.prog w 21 4 sb (fr.length + 2) (fr.length + 2) enc3 (seenB fr)
  row : ∃ v, w.heap[b3]? = some (.cells #[v] 94 (0, 0)) ∧ w.ownsRow w0.heap.size 21 1 v fr.length (fr.map fun (x : Nat) => enc3 x)
  below : Below w0.heap.size w0 w
  l1 : w0.heap.size ≤ b1
  l2 : w0.heap.size ≤ b2
  l3 : w0.heap.size ≤ b3
  l4 : w0.heap.size ≤ b4
  l5 : w0.heap.size ≤ sb
theorem grown_set {w : World} {b j : Nat} {u : Value} : w.grownBy (w.setCell ⟨b, j, none⟩ u) (some b) := ⟨rfl, rfl, rfl, by simp [World.setCell], fun i _ hi => Below.heap_setCell _ _ _ _ (fun e => hi (by rw [e]))⟩
theorem opt_ne {a b : Nat} (h : a ≠ b) : some a ≠ some b := fun e => h (by injection e)
theorem infoI : (Tryz.prog.info? 21).map (fun i => (i.zero, i.size, i.bytes)) = some (some (.int .i32 0), 1, 4) := by kernel_rfl

variable {w0 w w' : World} {p b1 b2 b3 b4 sb : Nat} {fr : List Nat}
/-- .. a node is marked as met -/
theorem Vs.mark (V : Vs w0 w p b1 b2 b3 b4 sb fr) {f : Nat} (hm : MSet Tryz.prog w' 21 4 sb (fr.length + 2 + 1) (fr.length + 2 + 1) enc3 (seenB (fr ++ [f]))) (hg : w.mapTurned w' sb) :
    w'.heap[b1]? = some (.cells #[.map (some sb)] 49 (0, 0)) ∧ w'.heap[b2]? = some (.cells #[.pointer (some ⟨p, 0, none⟩)] 24 (0, 0)) ∧
    w'.heap[b4]? = some (.cells #[.func (.func 93) #[] #[.pointer (some ⟨b1, 0, none⟩), .pointer (some ⟨b2, 0, none⟩), .pointer (some ⟨b3, 0, none⟩), .pointer (some ⟨b4, 0, none⟩)]] 85 (0, 0)) ∧
    (∃ v, w'.heap[b3]? = some (.cells #[v] 94 (0, 0)) ∧ w'.ownsRow w0.heap.size 21 1 v fr.length (fr.map fun (x : Nat) => enc3 x)) ∧ Below w0.heap.size w0 w' := by
  obtain ⟨es, cl, hs⟩ := V.seen.heap
  obtain ⟨v, hv, hr⟩ := V.row
  have hg := hg.grown
  have ne : ∀ {b : Nat} {cs : Array Value} {t : TypeId}, w.heap[b]? = some (.cells cs t (0, 0)) → some sb ≠ some b := fun h => opt_ne (Ne.symm (ne_kind h hs))
  refine ⟨heap_grown V.c1 hg (ne V.c1), heap_grown V.c2 hg (ne V.c2), heap_grown V.c4 hg (ne V.c4), ⟨v, heap_grown hv hg (ne hv), own_kept hr hg (fun g e1 e2 => ?_)⟩, V.below.grown hg V.below.size (fun b e => by injection e with e; have := V.l5; omega)⟩
  injection e1 with e1
  subst e1
  rcases hr.2 with ⟨rfl, _⟩ | ⟨g, cap, cur, rfl, _, hh, _⟩
  · cases e2
  · have : g = sb := by simpa [Value.ownBlock] using e2
    subst this
    rw [hs] at hh
    cases hh
theorem own_ne_map {w : World} {base size n sb : Nat} {e : TypeId} {v : Value} {xs : List Value} {es : Array MapEntry} {cl : Nat} (hr : w.ownsRow base e size v n xs) (hs : w.heap[sb]? = some (.map es cl)) : v.ownBlock ≠ some sb := by
  rcases hr.2 with ⟨rfl, _⟩ | ⟨g, cap, cur, rfl, _, hh, _⟩
  · intro h; cases h
  · intro h
    have : g = sb := by simpa [Value.ownBlock] using h
    subst this
    rw [hs] at hh
    cases hh
theorem Vs.drew (V : Vs w0 w p b1 b2 b3 b4 sb fr) : Vs w0 w.drew p b1 b2 b3 b4 sb fr := ⟨V.c1, V.c2, V.c4, V.seen, V.row, V.below.drew, V.l1, V.l2, V.l3, V.l4, V.l5⟩
/-- .. and stands behind the others -/
theorem Vs.put {w1 w2 : World} {f : Nat} {v v' : Value} (e1 : w1.heap[b1]? = some (.cells #[.map (some sb)] 49 (0, 0))) (e2 : w1.heap[b2]? = some (.cells #[.pointer (some ⟨p, 0, none⟩)] 24 (0, 0)))
    (e4 : w1.heap[b4]? = some (.cells #[.func (.func 93) #[] #[.pointer (some ⟨b1, 0, none⟩), .pointer (some ⟨b2, 0, none⟩), .pointer (some ⟨b3, 0, none⟩), .pointer (some ⟨b4, 0, none⟩)]] 85 (0, 0)))
    (e3 : w1.heap[b3]? = some (.cells #[v] 94 (0, 0))) (hr : w1.ownsRow w0.heap.size 21 1 v fr.length (fr.map fun (x : Nat) => enc3 x)) (eB : Below w0.heap.size w0 w1) (V : Vs w0 w p b1 b2 b3 b4 sb fr)
    (em : MSet Tryz.prog w1 21 4 sb (fr.length + 2 + 1) (fr.length + 2 + 1) enc3 (seenB (fr ++ [f]))) (o : Obj) (hown : w2.ownsRow w0.heap.size 21 1 v' (fr.length + 1) ((fr.map fun (x : Nat) => enc3 x) ++ [.int .i32 f])) (hg : (w1.alloc o).grownBy w2 v.ownBlock) :
    w2.heap[b3]? = some (.cells #[v] 94 (0, 0)) ∧ Vs w0 (w2.setCell ⟨b3, 0, none⟩ v') p b1 b2 b3 b4 sb (fr ++ [f]) := by
  have hl : (fr ++ [f]).length = fr.length + 1 := by simp
  have hr1 := hr.alloc o
  have f1 := heap_grown (heap_old (p := o) e1) hg (own_ne_row hr1 (heap_old e1) (by decide))
  have f2 := heap_grown (heap_old (p := o) e2) hg (own_ne_row hr1 (heap_old e2) (by decide))
  have f3 := heap_grown (heap_old (p := o) e3) hg (own_ne_row hr1 (heap_old e3) (by decide))
  have f4 := heap_grown (heap_old (p := o) e4) hg (own_ne_row hr1 (heap_old e4) (by decide))
  obtain ⟨es, cl, hs⟩ := em.heap
  have em1 := em.kept (World.grownBy_alloc w1 o none) (by simp)
  obtain ⟨es1, cl1, hs1⟩ := em1.heap
  have em2 := em1.kept hg (fun e => own_ne_map hr1 hs1 e.symm)
  obtain ⟨es2, cl2, hs2⟩ := em2.heap
  have hb3 : w0.heap.size ≤ b3 := V.l3
  refine ⟨f3, heap_far f1 (heap_ne f1 f3 (by decide)), heap_far f2 (heap_ne f2 f3 (by decide)), heap_far f4 (heap_ne f4 f3 (by decide)), ?_, ⟨v', ?_, ?_⟩, ?_, V.l1, V.l2, V.l3, V.l4, V.l5⟩
  · rw [hl]
    exact em2.setCell (Ne.symm (ne_kind f3 hs2)) _
  · rw [heap_set f3]; simp
  · rw [hl, List.map_append]
    refine own_kept hown grown_set (fun g e1 e2 => ?_)
    injection e1 with e1
    subst e1
    exact own_ne_row hown f3 (by decide) e2
  · exact ((eB.alloc eB.size o).grown hg (by have := eB.size; simp; omega) (fun b e => (hr1.lt b e).1)).setCell hb3 _
set_option maxHeartbeats 2000000 in
set_option maxRecDepth 100000 in
theorem visit_any (k : Blk) (s : St) (w0 : World) (hA : Ar w0 k s) (hm : s.m + 2 ≤ 2147483648) (b1 b2 b3 b4 sb : Nat) : ∀ (n f : Nat) (fr : List Nat) (w : World), f < n → f < s.nd.length → Met s.nd s.he fr → Vs w0 w k.p b1 b2 b3 b4 sb fr →
    Calls Tryz.prog 93 #[.int .i32 f, .pointer (some ⟨b1, 0, none⟩), .pointer (some ⟨b2, 0, none⟩), .pointer (some ⟨b3, 0, none⟩), .pointer (some ⟨b4, 0, none⟩)] w fun e w' => e = .returned (.tuple #[]) ∧ Vs w0 w' k.p b1 b2 b3 b4 sb (vis s.nd s.he n fr f) := by
  obtain ⟨fb, ft, H0, I⟩ := hA
  have hW := I.wf
  have hnm := I.nm
  intro n
  induction n with
  | zero => intro f fr w h; omega
  | succ n ih =>
    intro f fr w hfn hf hM V
    have hlen := hM.len
    have H := H0.below (V.below.mono (Nat.le_refl _) |> fun h => (⟨h.os, h.tape, h.output, h.size, h.block⟩ : Below w0.heap.size w0 w))
    have k1 := cell_heap (j := 0) V.c1 rfl
    have k2 := cell_heap (j := 0) V.c2 rfl
    have k6 := H.c6
    have lk1 : (Instr.lookup 49 (.map (some sb)) (.int .i32 f) false).run Tryz.prog w = .ok (.bool (seenB fr f)) w := V.seen.look keyed3 Tryz.underlying49 Tryz.underlying4 (zeroB _) (key3 f (by omega) (by omega))
    have lk2 : (Instr.lookup 49 (.map (some k.he)) (.int .i32 f) false).run Tryz.prog w = .ok (.bool (s.he f)) w := H.he.look keyed3 Tryz.underlying49 Tryz.underlying4 (zeroB _) (key3 f (by omega) (by omega))
    cases hs : seenB fr f with
    | true =>
      rw [hs] at lk1
      have HV : Hid (Vs w0 w k.p b1 b2 b3 b4 sb (vis s.nd s.he (n + 1) fr f)) := by
        rw [seenB_nat] at hs
        have : vis s.nd s.he (n + 1) fr f = fr := by
          unfold vis
          rw [if_pos]
          rcases of_decide_eq_true hs with h | h
          · exact .inl h
          · exact .inr (.inl h)
        rw [this]; exact V
      clear V H H0 I hM ih hs
      go_enter Tryz.func93, Tryz.ntmps93
      go_wp2_with fail
      (try simp only [Exit.inBlock, Exit.then])
      refine bodyPost_ret (results_none rfl _ _ _) rfl ?_
      exact ⟨rfl, HV.out⟩
    | false =>
      rw [hs] at lk1
      cases hh : s.he f with
      | true =>
        rw [hh] at lk2
        have HV : Hid (Vs w0 w k.p b1 b2 b3 b4 sb (vis s.nd s.he (n + 1) fr f)) := by
          have : vis s.nd s.he (n + 1) fr f = fr := by
            unfold vis
            rw [if_pos (.inr (.inr hh))]
          rw [this]; exact V
        clear V H H0 I hM ih hs
        go_enter Tryz.func93, Tryz.ntmps93
        go_wp2_with fail
        (try simp only [Exit.inBlock, Exit.then])
        refine bodyPost_ret (results_none rfl _ _ _) rfl ?_
        exact ⟨rfl, HV.out⟩
      | false =>
        rw [hh] at lk2
        have hsf := hs
        rw [seenB_nat] at hs
        have hc : ¬ (f < 2 ∨ f ∈ fr ∨ s.he f = true) := by
          have := of_decide_eq_false hs
          rintro (h | h | h)
          · exact this (.inl h)
          · exact this (.inr h)
          · rw [hh] at h; cases h
        obtain ⟨⟨v, lo, hi⟩, hx⟩ : ∃ x, s.nd[f]? = some x := ⟨_, List.getElem?_eq_getElem hf⟩
        obtain ⟨t, F, d⟩ := hW.den f hf
        obtain ⟨lo', hi', _, _, _, _, hr, r1, r2, _⟩ := d.row (by omega)
        rw [hx] at hr
        simp only [Option.some.injEq, Prod.mk.injEq] at hr
        obtain ⟨_, rfl, rfl⟩ := hr
        have hvis : vis s.nd s.he (n + 1) fr f = vis s.nd s.he n (vis s.nd s.he n (fr ++ [f]) lo) hi := by
          conv => lhs; unfold vis
          rw [if_neg hc, hx]
        rw [hvis]
        have HM := hide (hM.push hc hf)
        have HM2 := hide (vis_met hW n (fr ++ [f]) lo (by omega) HM.out)
        have IH1 := fun w => ih lo (fr ++ [f]) w (by omega) (by omega) HM.out
        have IH2 := fun w => ih hi (vis s.nd s.he n (fr ++ [f]) lo) w (by omega) (by omega) HM2.out
        have HI1 := hide IH1
        have HI2 := hide IH2
        have HVV := hide V
        have HH0 := hide H0
        clear ih IH1 IH2 d V H0 hvis
        go_enter Tryz.func93, Tryz.ntmps93
        go_wp2_with (at_mapUpdate; go_must (refine wpList_add rfl (.tmp 17) (.tmp 18) _ rfl HVV.out.seen keyed3 Tryz.underlying49 Tryz.underlying4 (by unfold maxLen; omega) enc3_inj rfl (f : Int) _ rfl (key3 f (by omega) (by omega)) rfl ?_))
        simp only [hsf, Bool.false_eq_true, if_false, seenB_push]
        intro w1 hms hmt
        obtain ⟨e1, e2, e4, ⟨vr, e3, hrow⟩, eB⟩ := HVV.out.mark hms hmt
        have hms2 := hms
        have q3 := cell_heap (j := 0) e3 rfl
        have q3f : w1.frozen? ⟨b3, 0, none⟩ = false := frozen_heap e3
        obtain ⟨A3, C3, rfl⟩ := own_slice hrow
        obtain ⟨i1, hi1, iz1, is1, ib1⟩ := info_at infoI
        have E1 := hide e1
        have E2 := hide e2
        have E3 := hide e3
        have E4 := hide e4
        have EB := hide eB
        have ER := hide hrow
        have EM := hide hms2
        clear e1 e2 e4 e3 hrow eB hms hmt hms2 lk1 lk2 k6 H
        have hrow2 := hide (ER.out.alloc (Obj.cells #[.int .i32 f] 21))
        go_wp2_with (at_builtin; go_must (refine wpList_append_own _ rfl (.tmp 19) (.tmp 21) 94 rfl w0.heap.size 21 i1 _ 1 4 Tryz.underlying94 hi1 iz1 is1 ib1 rfl (by decide) _ fr.length (fr.map fun (x : Nat) => enc3 x) rfl hrow2.out ⟨w1.heap.size, 0, none⟩ 1 1 [.int .i32 f] rfl rfl ?cells ?ones ?c63 ?cby ?cbase ?_))
        case cells =>
          intro j u hj
          match j, hj with
          | 0, hj => simp at hj; subst hj; simp [Addr.add, go_sem]
          | j + 1, hj => simp at hj
        case ones => simp [Value.oneCell']
        case c63 => unfold maxLen; omega
        case cby => omega
        case cbase => have := EB.out.size; simp; omega
        intro v' w2 hown' hgrow _
        obtain ⟨A4, C4, rfl⟩ := own_slice hown'
        obtain ⟨f3, V3⟩ := Vs.put E1.out E2.out E4.out E3.out ER.out EB.out HVV.out EM.out _ hown' hgrow
        have q4 := cell_heap (j := 0) f3 rfl
        have q4f : w2.frozen? ⟨b3, 0, none⟩ = false := frozen_heap f3
        have HV3 := hide V3
        clear V3 f3 hown' hgrow hrow2 E1 E2 E3 E4 EB ER EM HVV
        go_wp2_with fail
        generalize w2.setCell ⟨b3, 0, none⟩ (.slice A4 (fr.length + 1) C4) = w3 at *
        have H3 := HH0.out.below HV3.out.below
        have g4 : w3.drew.cell? ⟨b4, 0, none⟩ = some _ := cell_heap HV3.out.c4 rfl
        have g2 : w3.drew.cell? ⟨b2, 0, none⟩ = some (.pointer (some ⟨k.p, 0, none⟩)) := cell_heap HV3.out.c2 rfl
        have g5 := H3.drew.c2
        have g6 := (H3.drew.node hx).2.1
        have r0 : (f : Int) < s.nd.length := by omega
        go_still_tail 9, (by kernel_rfl)
        change wpList _ _ _ _ _ w3.drew
        have HV4 := hide HV3.out.drew
        generalize w3.drew = w4 at *
        clear g4 g2 g5 g6 H3 HV3
        go_wp2_with fail
        refine (HI1.out _ HV4.out).mono ?_
        rintro e w5 ⟨rfl, V5⟩
        have HV5 := hide V5
        clear V5 HV4
        go_wp2_with fail
        have H5 := HH0.out.below HV5.out.below
        have g4 : w5.drew.cell? ⟨b4, 0, none⟩ = some _ := cell_heap HV5.out.c4 rfl
        have g2 : w5.drew.cell? ⟨b2, 0, none⟩ = some (.pointer (some ⟨k.p, 0, none⟩)) := cell_heap HV5.out.c2 rfl
        have g5 := H5.drew.c2
        have g6 := (H5.drew.node hx).2.2
        go_still_tail 9, (by kernel_rfl)
        change wpList _ _ _ _ _ w5.drew
        have HV6 := hide HV5.out.drew
        generalize w5.drew = w6 at *
        clear g4 g2 g5 g6 H5 HV5
        go_wp2_with fail
        refine (HI2.out _ HV6.out).mono ?_
        rintro e w7 ⟨rfl, V7⟩
        have HV7 := hide V7
        clear V7 HV6
        go_wp2_with fail
        go_end0
        exact ⟨rfl, HV7.out⟩
end Go.Proofs.YtgfjdkkfgclhjaaGreat.Bd
/- cut: what becomes of a node when its variable has a value. -/
namespace Go.Proofs.YtgfjdkkfgclhjaaGreat.Bd
open Go.RowKit Go.Proofs.YtgfjdkkfgclhjaaGreat Go.Proofs.YtgfjdkkfgclhjaaGreat.Lx Go.Maps

set_option maxHeartbeats 1000000 in
set_option maxRecDepth 100000 in
theorem cut_any (k : Blk) (s : St) (f v : Nat) (b : Bool) (w : World) (hA : Ar w k s) (hf : f < s.nd.length) (hv : v < 2147483648) (hm : s.m + 2 ≤ 2147483648) :
    Calls Tryz.prog 36 #[.pointer (some ⟨k.p, 0, none⟩), .int .i32 f, .int .i32 v, .bool b] w fun e w' => e = .returned (.int .i32 (cut s.nd f v b)) ∧ Below w.heap.size w w' := by
  obtain ⟨fb, ft, H, I⟩ := hA
  obtain ⟨⟨a, lo, hi⟩, hx⟩ : ∃ x, s.nd[f]? = some x := ⟨_, List.getElem?_eq_getElem hf⟩
  obtain ⟨n0, n1, n2⟩ := H.node hx
  have c2 := H.c2
  have hfi : (f : Int) < s.nd.length := by omega
  have hcut : cut s.nd f v b = if a ≠ v then f else if b then hi else lo := by unfold cut; rw [hx]
  have hbl := hide (bel_one w (.cells #[.int .i32 a, .int .i32 lo, .int .i32 hi] 44))
  clear H I
  by_cases hav : a = v
  · have hd : ((a : Int) != v) = false := by rw [hav]; simp
    rw [if_neg (by simp [hav])] at hcut
    cases b
    · have HC := hide hcut
      clear hcut
      go_enter Tryz.func36, Tryz.ntmps36
      go_wp2_with fail
      go_ret
      refine ⟨?_, bel_one _ _⟩
      rw [HC.out]; rfl
    · have HC := hide hcut
      clear hcut
      go_enter Tryz.func36, Tryz.ntmps36
      go_wp2_with fail
      go_ret
      refine ⟨?_, bel_one _ _⟩
      rw [HC.out]; rfl
  · have hd : ((a : Int) != v) = true := by simp; omega
    rw [if_pos hav] at hcut
    have HC := hide hcut
    clear hcut
    go_enter Tryz.func36, Tryz.ntmps36
    go_wp2_with fail
    go_ret
    refine ⟨?_, bel_one _ _⟩
    rw [HC.out]
    rfl
end Go.Proofs.YtgfjdkkfgclhjaaGreat.Bd
