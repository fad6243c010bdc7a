/- What the claim leans on, part 4 of 13: EB PC PD PE MC CD CE CF CG CH CI. -/
import Derived.IntWalk
import Derived.Laws.BitsAllLaws
import Derived.Laws.Externs
import Derived.Test.YtgfjdkkfgclhjaaGreatPl01
import Derived.Test.YtgfjdkkfgclhjaaGreatPl02
import Derived.Test.YtgfjdkkfgclhjaaGreatPl03
/- The document's Inner in plain Lean, and how many nodes lie beneath one: the tables that it lists are the nodes'. No step of a program is in sight. -/
namespace Go.Proofs.YtgfjdkkfgclhjaaGreat.Bd

abbrev Tb := List Bool
def addT (l : List Tb) (f : Tb) : List Tb := if f ∈ l then l else l ++ [f]
theorem mem_addT {l : List Tb} {f x : Tb} : x ∈ addT l f ↔ x ∈ l ∨ x = f := by
  unfold addT
  split
  · rename_i h
    exact ⟨.inl, fun e => e.elim id (fun e => e ▸ h)⟩
  · simp
def putI (n : Nat) (l : List Tb) (x : Tb) : List Tb := if x = allR n false ∨ x = allR n true ∨ x ∈ l then l else l ++ [x]
def inLv (n : Nat) (now l : List Tb) : List Tb := now.foldl (putI n) l
def inNx (n v : Nat) (now : List Tb) : List Tb := now.foldl (fun nx x => addT (addT nx (restR n x v false)) (restR n x v true)) []
def inG (n : Nat) : Nat → Nat → List Tb → List Tb → List Tb
  | 0, _, now, l => inLv n now l
  | k + 1, v, now, l => inG n k (v + 1) (inNx n v now) (inLv n now l)
/-- the tables of a diagram, behind those that are handed in -/
def inner (n : Nat) (f : Tb) (l : List Tb) : List Tb := inG n n 0 [f] l
theorem mem_putI {n : Nat} {l : List Tb} {x y : Tb} : y ∈ putI n l x ↔ y ∈ l ∨ (y = x ∧ x ≠ allR n false ∧ x ≠ allR n true) := by
  unfold putI
  split
  · rename_i h
    constructor
    · exact .inl
    · rintro (e | ⟨rfl, e1, e2⟩)
      · exact e
      · rcases h with h | h | h
        · exact absurd h e1
        · exact absurd h e2
        · exact h
  · rename_i h
    simp only [not_or] at h
    rw [List.mem_append, List.mem_singleton]
    exact ⟨fun e => e.imp id (fun e => ⟨e, h.1, h.2.1⟩), fun e => e.imp id (fun e => e.1)⟩
/-- a list, longer by others, each once -/
def More (l m : List Tb) : Prop := ∃ ex, m = l ++ ex ∧ ex.Nodup ∧ ∀ x ∈ ex, x ∉ l
theorem More.refl (l : List Tb) : More l l := ⟨[], by simp, List.nodup_nil, fun x h => by cases h⟩
theorem More.trans {a b c : List Tb} (h : More a b) (h2 : More b c) : More a c := by
  obtain ⟨e1, rfl, n1, d1⟩ := h
  obtain ⟨e2, rfl, n2, d2⟩ := h2
  refine ⟨e1 ++ e2, by rw [List.append_assoc], List.nodup_append.2 ⟨n1, n2, fun x hx y hy e => ?_⟩, fun x hx => ?_⟩
  · subst e
    exact d2 x hy (List.mem_append_right _ hx)
  · rcases List.mem_append.1 hx with h | h
    · exact d1 x h
    · exact fun h' => d2 x h (List.mem_append_left _ h')
theorem more_putI (n : Nat) (l : List Tb) (x : Tb) : More l (putI n l x) := by
  unfold putI
  split
  · exact More.refl l
  · rename_i h
    simp only [not_or] at h
    exact ⟨[x], rfl, by simp, fun y hy => by rw [List.mem_singleton.1 hy]; exact h.2.2⟩
theorem more_inLv (n : Nat) : ∀ (now l : List Tb), More l (inLv n now l)
  | [], l => More.refl l
  | x :: xs, l => (more_putI n l x).trans (more_inLv n xs _)
theorem mem_inLv {n : Nat} {y : Tb} : ∀ (now l : List Tb), y ∈ inLv n now l ↔ y ∈ l ∨ (y ∈ now ∧ y ≠ allR n false ∧ y ≠ allR n true)
  | [], l => by simp [inLv]
  | x :: xs, l => by
    show y ∈ inLv n xs (putI n l x) ↔ _
    rw [mem_inLv xs, mem_putI, List.mem_cons]
    constructor
    · rintro ((h | ⟨rfl, h⟩) | ⟨h, h'⟩)
      · exact .inl h
      · exact .inr ⟨.inl rfl, h⟩
      · exact .inr ⟨.inr h, h'⟩
    · rintro (h | ⟨rfl | h, h'⟩)
      · exact .inl (.inl h)
      · exact .inl (.inr ⟨rfl, h'⟩)
      · exact .inr ⟨h, h'⟩
theorem mem_inNx0 {n v : Nat} {y : Tb} : ∀ (now l : List Tb), y ∈ now.foldl (fun nx x => addT (addT nx (restR n x v false)) (restR n x v true)) l ↔ y ∈ l ∨ ∃ x ∈ now, ∃ b, y = restR n x v b
  | [], l => by simp
  | x :: xs, l => by
    rw [List.foldl_cons, mem_inNx0 xs, mem_addT, mem_addT]
    constructor
    · rintro (((h | h) | h) | ⟨z, hz, b, h⟩)
      · exact .inl h
      · exact .inr ⟨x, List.mem_cons_self, false, h⟩
      · exact .inr ⟨x, List.mem_cons_self, true, h⟩
      · exact .inr ⟨z, List.mem_cons_of_mem _ hz, b, h⟩
    · rintro (h | ⟨z, hz, b, h⟩)
      · exact .inl (.inl (.inl h))
      · rcases List.mem_cons.1 hz with rfl | hz
        · cases b
          · exact .inl (.inl (.inr h))
          · exact .inl (.inr h)
        · exact .inr ⟨z, hz, b, h⟩
theorem mem_inNx {n v : Nat} {y : Tb} {now : List Tb} : y ∈ inNx n v now ↔ ∃ x ∈ now, ∃ b, y = restR n x v b := by
  unfold inNx
  rw [mem_inNx0]
  simp
theorem more_inG (n : Nat) : ∀ (k v : Nat) (now l : List Tb), More l (inG n k v now l)
  | 0, _, now, l => more_inLv n now l
  | k + 1, v, now, l => (more_inLv n now l).trans (more_inG n k (v + 1) _ _)
/-! ### the nodes of each level -/
def lowV (n : Nat) : Nat → Bool := fun v => decide (v < n)
theorem Den.hn {n : Nat} {nd : List Nd} {i t : Nat} {F : Env → Bool} (h : Den (lowV n) nd i t F) : Hn n F := by
  induction h with
  | zero => exact fun _ _ _ => rfl
  | one => exact fun _ _ _ => rfl
  | node h h2 hl hh hne h1 h3 hv hS dl dh il ih =>
    intro ρ σ e
    have := of_decide_eq_true hS
    simp only [e _ this]
    rw [il ρ σ e, ih ρ σ e]
def LvN (nd : List Nd) (r : Nat) : Nat → Nat → Prop
  | 0, g => g = r
  | v + 1, g => ∃ h b, LvN nd r v h ∧ g = cut nd h v b
variable {nd : List Nd} {n r t0 : Nat} {F0 : Env → Bool}
theorem LvN.den (hw : WF nd) (d0 : Den (lowV n) nd r t0 F0) (hn : n ≤ 256) : ∀ {v g : Nat}, v ≤ n → LvN nd r v g → ∃ t G, v ≤ t ∧ Den (lowV n) nd g t G
  | 0, g, _, h => by
    obtain rfl : g = r := h
    exact ⟨t0, F0, Nat.zero_le _, d0⟩
  | v + 1, g, hv, ⟨h, b, hl, e⟩ => by
    obtain ⟨t, G, ht, d⟩ := LvN.den hw d0 hn (by omega) hl
    obtain ⟨t', h1, d'⟩ := cut_den hw d ht (by omega) b
    exact ⟨t', _, h1, e ▸ d'⟩
theorem cut_far {f t v : Nat} {G : Env → Bool} (hw : WF nd) (d : Den (lowV n) nd f t G) (h : v < t) (b : Bool) : cut nd f v b = f := by
  unfold cut
  cases d with
  | zero => rw [hw.e0]; simp only; rw [if_pos (by omega)]
  | one => rw [hw.e1]; simp only; rw [if_pos (by omega)]
  | node h0 _ _ _ _ _ _ _ _ _ _ => rw [h0]; simp only; rw [if_pos (by omega)]
theorem LvN.stay (hw : WF nd) {v f t : Nat} {G : Env → Bool} (h : LvN nd r v f) (d : Den (lowV n) nd f t G) : ∀ k, v + k ≤ t → LvN nd r (v + k) f
  | 0, _ => h
  | k + 1, hk => ⟨f, false, LvN.stay hw h d k (by omega), (cut_far hw d (show v + k < t by omega) false).symm⟩
theorem LvN.of_reach (hw : WF nd) (d0 : Den (lowV n) nd r t0 F0) (hn : n ≤ 256) {f y : Nat} (hr : Reach nd f y) : ∀ v, v ≤ n → LvN nd r v f → 2 ≤ y → ∃ v', v' ≤ n ∧ LvN nd r v' y := by
  induction hr with
  | refl f => exact fun v hv h _ => ⟨v, hv, h⟩
  | lo h h2 _ ih =>
    intro v hv hl hy
    obtain ⟨t, G, ht, d⟩ := LvN.den hw d0 hn hv hl
    obtain ⟨lo', hi', tl, th, Fl, Fh, hr, r1, r2, r3, r4, r5, r6, r7, dl, dh, rfl⟩ := d.row h2
    rw [hr] at h
    simp only [Option.some.injEq, Prod.mk.injEq] at h
    obtain ⟨rfl, rfl, rfl⟩ := h
    have htn := of_decide_eq_true r7
    have hs := hl.stay hw d (t - v) (by omega)
    rw [show v + (t - v) = t by omega] at hs
    refine ih (t + 1) htn ⟨_, false, hs, ?_⟩ hy
    unfold cut
    rw [hr]
    simp
  | hi h h2 _ ih =>
    intro v hv hl hy
    obtain ⟨t, G, ht, d⟩ := LvN.den hw d0 hn hv hl
    obtain ⟨lo', hi', tl, th, Fl, Fh, hr, r1, r2, r3, r4, r5, r6, r7, dl, dh, rfl⟩ := d.row h2
    rw [hr] at h
    simp only [Option.some.injEq, Prod.mk.injEq] at h
    obtain ⟨rfl, rfl, rfl⟩ := h
    have htn := of_decide_eq_true r7
    have hs := hl.stay hw d (t - v) (by omega)
    rw [show v + (t - v) = t by omega] at hs
    refine ih (t + 1) htn ⟨_, true, hs, ?_⟩ hy
    unfold cut
    rw [hr]
    simp
theorem Reach.trans {a b c : Nat} (h : Reach nd a b) (h2 : Reach nd b c) : Reach nd a c := by
  induction h with
  | refl => exact h2
  | lo h h2' _ ih => exact .lo h h2' (ih h2)
  | hi h h2' _ ih => exact .hi h h2' (ih h2)
theorem LvN.reach (hw : WF nd) (d0 : Den (lowV n) nd r t0 F0) (hn : n ≤ 256) : ∀ {v g : Nat}, v ≤ n → LvN nd r v g → Reach nd r g
  | 0, g, _, h => by
    obtain rfl : g = r := h
    exact .refl _
  | v + 1, g, hv, ⟨h, b, hl, e⟩ => by
    have ih := LvN.reach hw d0 hn (by omega) hl
    refine ih.trans ?_
    subst e
    obtain ⟨t, G, ht, d⟩ := LvN.den hw d0 hn (by omega) hl
    rcases Nat.lt_or_ge v t with hvt | hvt
    · rw [cut_far hw d hvt]
      exact .refl _
    · obtain rfl : t = v := by omega
      rcases Nat.lt_or_ge h 2 with h2 | h2
      · have := (d.ends h2).1
        omega
      · obtain ⟨lo', hi', tl, th, Fl, Fh, hr, _⟩ := d.row h2
        unfold cut
        rw [hr]
        simp only [ne_eq, not_true_eq_false, if_false]
        cases b
        · exact .lo hr h2 (.refl _)
        · exact .hi hr h2 (.refl _)
/-! ### a level's tables are its nodes' -/
def LvT (nd : List Nd) (n r v : Nat) (now : List Tb) : Prop := ∀ x, x ∈ now ↔ ∃ g t G, LvN nd r v g ∧ Den (lowV n) nd g t G ∧ x = tab n G
theorem LvT.first (d0 : Den (lowV n) nd r t0 F0) : LvT nd n r 0 [tab n F0] := fun x => by
  rw [List.mem_singleton]
  constructor
  · intro h
    exact ⟨r, t0, F0, rfl, d0, h⟩
  · rintro ⟨g, t, G, hg, d, rfl⟩
    obtain rfl : g = r := hg
    rw [(d.det d0).2]
theorem LvT.next (hw : WF nd) (d0 : Den (lowV n) nd r t0 F0) (hn : n ≤ 256) {v : Nat} {now : List Tb} (h : LvT nd n r v now) (hv : v < n) : LvT nd n r (v + 1) (inNx n v now) := fun x => by
  rw [mem_inNx]
  constructor
  · rintro ⟨y, hy, b, rfl⟩
    obtain ⟨g, t, G, hg, d, rfl⟩ := (h y).1 hy
    obtain ⟨t1, G1, h1, d1⟩ := LvN.den hw d0 hn (by omega) hg
    have e1 := (d1.det d).1
    obtain ⟨t', h2, d'⟩ := cut_den hw d (show v ≤ t by omega) (by omega) b
    exact ⟨_, t', _, ⟨g, b, hg, rfl⟩, d', rest_tab G b hv⟩
  · rintro ⟨g, t, G, ⟨f, b, hf, rfl⟩, d, rfl⟩
    obtain ⟨t1, G1, h1, d1⟩ := LvN.den hw d0 hn (by omega) hf
    obtain ⟨t', h2, d'⟩ := cut_den hw d1 h1 (by omega) b
    obtain ⟨_, e2⟩ := d.det d'
    exact ⟨tab n G1, (h _).2 ⟨f, t1, G1, hf, d1, rfl⟩, b, by rw [rest_tab G1 b hv, e2]⟩
theorem cst_iff (hw : WF nd) {g t : Nat} {G : Env → Bool} (d : Den (lowV n) nd g t G) : (tab n G ≠ allR n false ∧ tab n G ≠ allR n true) ↔ 2 ≤ g := by
  constructor
  · rintro ⟨h1, h2⟩
    rcases Nat.lt_or_ge g 2 with h | h
    · exfalso
      have hG := (d.ends h).2
      rcases (by omega : g = 0 ∨ g = 1) with rfl | rfl
      · exact h1 (by rw [all_tab]; congr 1; funext ρ; rw [hG]; rfl)
      · exact h2 (by rw [all_tab]; congr 1; funext ρ; rw [hG]; rfl)
    · exact h
  · intro h
    refine ⟨fun e => ?_, fun e => ?_⟩
    · rw [all_tab] at e
      have := tab_inj d.hn (fun _ _ _ => rfl) e
      subst this
      have := d.eq hw.once (Den.zero (S := lowV n))
      omega
    · rw [all_tab] at e
      have := tab_inj d.hn (fun _ _ _ => rfl) e
      subst this
      have := d.eq hw.once (Den.one (S := lowV n))
      omega
theorem mem_inG (hw : WF nd) (d0 : Den (lowV n) nd r t0 F0) (hn : n ≤ 256) {y : Tb} : ∀ (k v : Nat) (now l : List Tb), v + k = n → LvT nd n r v now → (y ∈ inG n k v now l ↔ y ∈ l ∨ ∃ v' g t G, v ≤ v' ∧ v' ≤ n ∧ LvN nd r v' g ∧ Den (lowV n) nd g t G ∧ 2 ≤ g ∧ y = tab n G)
  | 0, v, now, l, hk, h => by
    rw [inG, mem_inLv, h y]
    constructor
    · rintro (e | ⟨⟨g, t, G, h1, d, rfl⟩, h2⟩)
      · exact .inl e
      · exact .inr ⟨v, g, t, G, Nat.le_refl _, by omega, h1, d, (cst_iff hw d).1 h2, rfl⟩
    · rintro (e | ⟨v', g, t, G, h1, h2, h3, d, h4, rfl⟩)
      · exact .inl e
      · obtain rfl : v' = v := by omega
        exact .inr ⟨⟨g, t, G, h3, d, rfl⟩, (cst_iff hw d).2 h4⟩
  | k + 1, v, now, l, hk, h => by
    rw [inG, mem_inG hw d0 hn k (v + 1) _ _ (by omega) (h.next hw d0 hn (by omega)), mem_inLv, h y]
    constructor
    · rintro ((e | ⟨⟨g, t, G, h1, d, rfl⟩, h2⟩) | ⟨v', g, t, G, h1, h2, h3, d, h4, rfl⟩)
      · exact .inl e
      · exact .inr ⟨v, g, t, G, Nat.le_refl _, by omega, h1, d, (cst_iff hw d).1 h2, rfl⟩
      · exact .inr ⟨v', g, t, G, by omega, h2, h3, d, h4, rfl⟩
    · rintro (e | ⟨v', g, t, G, h1, h2, h3, d, h4, rfl⟩)
      · exact .inl (.inl e)
      · by_cases hv : v' = v
        · subst hv
          exact .inl (.inr ⟨⟨g, t, G, h3, d, rfl⟩, (cst_iff hw d).2 h4⟩)
        · exact .inr ⟨v', g, t, G, by omega, h2, h3, d, h4, rfl⟩
/-- the tables that Inner lists: the nodes' that lie beneath -/
theorem mem_inner (hw : WF nd) (d0 : Den (lowV n) nd r t0 F0) (hn : n ≤ 256) {y : Tb} {l : List Tb} : y ∈ inner n (tab n F0) l ↔ y ∈ l ∨ ∃ g t G, Reach nd r g ∧ 2 ≤ g ∧ Den (lowV n) nd g t G ∧ y = tab n G := by
  unfold inner
  rw [mem_inG hw d0 hn n 0 _ _ (by omega) (LvT.first d0)]
  constructor
  · rintro (e | ⟨v', g, t, G, h1, h2, h3, d, h4, rfl⟩)
    · exact .inl e
    · exact .inr ⟨g, t, G, LvN.reach hw d0 hn h2 h3, h4, d, rfl⟩
  · rintro (e | ⟨g, t, G, h1, h2, d, rfl⟩)
    · exact .inl e
    · obtain ⟨v', hv, hl⟩ := LvN.of_reach hw d0 hn h1 0 (Nat.zero_le _) rfl h2
      exact .inr ⟨v', g, t, G, Nat.zero_le _, hv, hl, d, h2, rfl⟩
/-! ### as many as the nodes that are not held yet -/
/-- the held nodes, as tables -/
structure HeT (nd : List Nd) (n : Nat) (he : Int → Bool) (l : List Tb) : Prop where
  shut : ∀ x : Nat, he x = true → ∀ v lo hi, nd[x]? = some (v, lo, hi) → (lo < 2 ∨ he lo = true) ∧ (hi < 2 ∨ he hi = true)
  den : ∀ x : Nat, he x = true → 2 ≤ x ∧ ∃ t G, Den (lowV n) nd x t G
  mem : ∀ y, y ∈ l ↔ ∃ (x t : Nat) (G : Env → Bool), he x = true ∧ Den (lowV n) nd x t G ∧ y = tab n G
open Classical in
noncomputable def tabOf (n : Nat) (nd : List Nd) (x : Nat) : Tb := if h : ∃ t G, Den (lowV n) nd x t G then tab n (Classical.choose (Classical.choose_spec h)) else []
theorem tabOf_den {x t : Nat} {G : Env → Bool} (d : Den (lowV n) nd x t G) : tabOf n nd x = tab n G := by
  have h : ∃ t G, Den (lowV n) nd x t G := ⟨t, G, d⟩
  unfold tabOf
  rw [dif_pos h]
  have d' := Classical.choose_spec (Classical.choose_spec h)
  rw [(d'.det d).2]
theorem reach_den {x y : Nat} (h : Reach nd x y) : ∀ {t : Nat} {G : Env → Bool}, Den (lowV n) nd x t G → ∃ t' G', Den (lowV n) nd y t' G' := by
  induction h with
  | refl => exact fun d => ⟨_, _, d⟩
  | lo h h2 _ ih =>
    intro t G d
    obtain ⟨lo', hi', tl, th, Fl, Fh, hr, r1, r2, r3, r4, r5, r6, r7, dl, dh, rfl⟩ := d.row h2
    rw [hr] at h
    cases h
    exact ih dl
  | hi h h2 _ ih =>
    intro t G d
    obtain ⟨lo', hi', tl, th, Fl, Fh, hr, r1, r2, r3, r4, r5, r6, r7, dl, dh, rfl⟩ := d.row h2
    rw [hr] at h
    cases h
    exact ih dh
theorem den_inj (hw : WF nd) {x y t u : Nat} {G H : Env → Bool} (d : Den (lowV n) nd x t G) (e : Den (lowV n) nd y u H) (h : tab n G = tab n H) : x = y := by
  have := tab_inj d.hn e.hn h
  subst this
  exact d.eq hw.once e
theorem nodup_map {l : List Nat} {f : Nat → Tb} (h : l.Nodup) (hi : ∀ x ∈ l, ∀ y ∈ l, f x = f y → x = y) : (l.map f).Nodup := by
  induction l with
  | nil => exact List.nodup_nil
  | cons a l ih =>
    rw [List.map_cons, List.nodup_cons] at *
    refine ⟨fun hm => ?_, ih h.2 (fun x hx y hy => hi x (List.mem_cons_of_mem _ hx) y (List.mem_cons_of_mem _ hy))⟩
    obtain ⟨b, hb, e⟩ := List.mem_map.1 hm
    have := hi b (List.mem_cons_of_mem _ hb) a List.mem_cons_self e
    subst this
    exact h.1 hb
theorem same_len {l m : List Tb} (h : l.Nodup) (h' : m.Nodup) (e : ∀ x, x ∈ l ↔ x ∈ m) : l.length = m.length :=
  Nat.le_antisymm (List.Nodup.length_le_of_subset h (fun x hx => (e x).1 hx)) (List.Nodup.length_le_of_subset h' (fun x hx => (e x).2 hx))
theorem mem_vis (hw : WF nd) {he : Int → Bool} {l : List Tb} (H : HeT nd n he l) (hr : r < nd.length) {y : Nat} : y ∈ vis nd he (r + 1) [] r ↔ Reach nd r y ∧ 2 ≤ y ∧ he y = false := by
  have a := vis_ok hw (he := he) (r + 1) [] r (by omega) hr
  constructor
  · intro h
    rcases a.new y h with h | ⟨h, h1, h2⟩
    · cases h
    · exact ⟨h, h2, h1⟩
  · rintro ⟨h1, h2, h3⟩
    rcases shut_reach H.shut (fun x h => a.shut x h (by simp)) h1 a.me with h | h | h
    · omega
    · exact h
    · rw [h3] at h; cases h
theorem inner_len (hw : WF nd) {he : Int → Bool} {l : List Tb} (H : HeT nd n he l) (d0 : Den (lowV n) nd r t0 F0) (hn : n ≤ 256) : (inner n (tab n F0) l).length = l.length + (vis nd he (r + 1) [] r).length := by
  obtain ⟨ex, e, hnd, hdj⟩ := more_inG n n 0 [tab n F0] l
  have hr := d0.lt hw
  have hnv : (vis nd he (r + 1) [] r).Nodup := (vis_met hw (r + 1) [] r hr (Met.nil nd he)).nodup
  have hden : ∀ x ∈ vis nd he (r + 1) [] r, ∃ t G, Den (lowV n) nd x t G := fun x hx => reach_den ((mem_vis hw H hr).1 hx).1 d0
  have h1 : ex.length = ((vis nd he (r + 1) [] r).map (tabOf n nd)).length := by
    refine same_len hnd (nodup_map hnv (fun x hx y hy e => ?_)) (fun y => ?_)
    · obtain ⟨t, G, d⟩ := hden x hx
      obtain ⟨t', G', d'⟩ := hden y hy
      rw [tabOf_den d, tabOf_den d'] at e
      exact den_inj hw d d' e
    · have hm := mem_inner hw d0 hn (y := y) (l := l)
      have hm' : y ∈ l ++ ex ↔ y ∈ l ∨ ∃ g t G, Reach nd r g ∧ 2 ≤ g ∧ Den (lowV n) nd g t G ∧ y = tab n G := by rw [← e]; exact hm
      rw [List.mem_append] at hm'
      constructor
      · intro hy
        have hyl := hdj y hy
        rcases hm'.1 (.inr hy) with h | ⟨g, t, G, h1, h2, d, rfl⟩
        · exact absurd h hyl
        · refine List.mem_map.2 ⟨g, (mem_vis hw H hr).2 ⟨h1, h2, ?_⟩, tabOf_den d⟩
          cases hg : he g with
          | false => rfl
          | true => exact absurd ((H.mem _).2 ⟨g, t, G, hg, d, rfl⟩) hyl
      · intro hy
        obtain ⟨g, hg, rfl⟩ := List.mem_map.1 hy
        obtain ⟨h1, h2, h3⟩ := (mem_vis hw H hr).1 hg
        obtain ⟨t, G, d⟩ := hden g hg
        rw [tabOf_den d] at hm' ⊢
        rcases hm'.2 (.inr ⟨g, t, G, h1, h2, d, rfl⟩) with h | h
        · obtain ⟨x, t', G', hx, d', e'⟩ := (H.mem _).1 h
          obtain rfl := den_inj hw d d' e'
          rw [h3] at hx; cases hx
        · exact h
  show (inG n n 0 [tab n F0] l).length = _
  rw [e, List.length_append, h1, List.length_map]
theorem HeT.give (hw : WF nd) {he : Int → Bool} {l : List Tb} (H : HeT nd n he l) (d0 : Den (lowV n) nd r t0 F0) (hn : n ≤ 256) : HeT nd n (fun x => decide (0 ≤ x ∧ x.toNat ∈ vis nd he (r + 1) [] r) || he x) (inner n (tab n F0) l) := by
  have hr := d0.lt hw
  have hm := fun y => mem_vis (y := y) hw H hr
  have hb : ∀ x : Nat, (decide ((0 : Int) ≤ x ∧ (x : Int).toNat ∈ vis nd he (r + 1) [] r) || he x) = true ↔ he x = true ∨ (Reach nd r x ∧ 2 ≤ x) := fun x => by
    rw [Bool.or_eq_true, decide_eq_true_eq]
    constructor
    · rintro (⟨_, h⟩ | h)
      · rw [Int.toNat_natCast] at h
        have := (hm x).1 h
        exact .inr ⟨this.1, this.2.1⟩
      · exact .inl h
    · rintro (h | ⟨h1, h2⟩)
      · exact .inr h
      · cases hx : he x with
        | true => exact .inr rfl
        | false => exact .inl ⟨Int.natCast_nonneg x, by rw [Int.toNat_natCast]; exact (hm x).2 ⟨h1, h2, hx⟩⟩
  refine ⟨fun x hx v lo hi hrow => ?_, fun x hx => ?_, fun y => ?_⟩
  · rw [hb lo, hb hi]
    rcases (hb x).1 hx with h | ⟨h1, h2⟩
    · obtain ⟨h3, h4⟩ := H.shut x h v lo hi hrow
      exact ⟨h3.imp id .inl, h4.imp id .inl⟩
    · refine ⟨?_, ?_⟩
      · rcases Nat.lt_or_ge lo 2 with h | h
        · exact .inl h
        · exact .inr (.inr ⟨h1.trans (.lo hrow h2 (.refl _)), h⟩)
      · rcases Nat.lt_or_ge hi 2 with h | h
        · exact .inl h
        · exact .inr (.inr ⟨h1.trans (.hi hrow h2 (.refl _)), h⟩)
  · rcases (hb x).1 hx with h | ⟨h1, h2⟩
    · exact H.den x h
    · exact ⟨h2, reach_den h1 d0⟩
  · rw [mem_inner hw d0 hn, H.mem y]
    constructor
    · rintro (⟨x, t, G, h1, d, rfl⟩ | ⟨g, t, G, h1, h2, d, rfl⟩)
      · exact ⟨x, t, G, (hb x).2 (.inl h1), d, rfl⟩
      · exact ⟨g, t, G, (hb g).2 (.inr ⟨h1, h2⟩), d, rfl⟩
    · rintro ⟨x, t, G, h1, d, rfl⟩
      rcases (hb x).1 h1 with h | ⟨h, h2⟩
      · exact .inl ⟨x, t, G, h, d, rfl⟩
      · exact .inr ⟨x, t, G, h, h2, d, rfl⟩
theorem HeT.none (nd : List Nd) (n : Nat) : HeT nd n (fun _ => false) [] := ⟨fun x h => by (cases h), fun x h => by (cases h), fun y => ⟨fun h => by (cases h), fun ⟨x, _, _, h, _⟩ => by (cases h)⟩⟩
theorem HeT.grow {he : Int → Bool} {l : List Tb} (H : HeT nd n he l) (ex : List Nd) : HeT (nd ++ ex) n he l := by
  refine ⟨fun x hx v lo hi hrow => ?_, fun x hx => ?_, fun y => ?_⟩
  · obtain ⟨h2, t, G, d⟩ := H.den x hx
    obtain ⟨lo', hi', _, _, _, _, hr, _⟩ := d.row h2
    have : (nd ++ ex)[x]? = nd[x]? := List.getElem?_append_left (lt_of_some hr)
    rw [this] at hrow
    exact H.shut x hx v lo hi hrow
  · obtain ⟨h2, t, G, d⟩ := H.den x hx
    exact ⟨h2, t, G, d.append⟩
  · rw [H.mem y]
    constructor
    · rintro ⟨x, t, G, h1, d, rfl⟩
      exact ⟨x, t, G, h1, d.append, rfl⟩
    · rintro ⟨x, t, G, h1, d, rfl⟩
      obtain ⟨h2, t', G', d'⟩ := H.den x h1
      obtain ⟨_, e⟩ := (d'.append (nx := ex)).det d
      subst e
      exact ⟨x, t', _, h1, d', rfl⟩
end Go.Proofs.YtgfjdkkfgclhjaaGreat.Bd
/- For how many values a function is true, in plain words. No program is in sight. -/
namespace Go.Proofs.YtgfjdkkfgclhjaaGreat.Bd

def cntL (F : Env → Bool) : List Nat → Env → Nat
  | [], ρ => if F ρ then 1 else 0
  | v :: vs, ρ => cntL F vs (upd ρ v false) + cntL F vs (upd ρ v true)
theorem cntL_le (F : Env → Bool) : ∀ (l : List Nat) (ρ : Env), cntL F l ρ ≤ 2 ^ l.length := by
  intro l
  induction l with
  | nil => intro ρ; unfold cntL; split <;> simp
  | cons v vs ih =>
    intro ρ
    have h1 := ih (upd ρ v false)
    have h2 := ih (upd ρ v true)
    simp only [cntL, List.length_cons, Nat.pow_succ]
    omega
/-- what F doesn't see may be put in -/
theorem cntL_upd {F : Env → Bool} {v : Nat} (h : ∀ ρ b, F (upd ρ v b) = F ρ) (b : Bool) : ∀ (l : List Nat) (ρ : Env), cntL F l (upd ρ v b) = cntL F l ρ := by
  intro l
  induction l with
  | nil => intro ρ; unfold cntL; rw [h]
  | cons x xs ih =>
    intro ρ
    simp only [cntL]
    by_cases e : v = x
    · subst e; simp only [upd_twice]
    · rw [upd_swap ρ b false e, upd_swap ρ b true e, ih, ih]
theorem cntL_free {F : Env → Bool} {v : Nat} (h : ∀ ρ b, F (upd ρ v b) = F ρ) (l : List Nat) (ρ : Env) : cntL F (v :: l) ρ = 2 * cntL F l ρ := by
  simp only [cntL, cntL_upd h]
  omega
theorem cntL_frees {F : Env → Bool} : ∀ (l1 l2 : List Nat) (ρ : Env), (∀ v ∈ l1, ∀ ρ b, F (upd ρ v b) = F ρ) → cntL F (l1 ++ l2) ρ = 2 ^ l1.length * cntL F l2 ρ := by
  intro l1
  induction l1 with
  | nil => intro l2 ρ _; simp
  | cons v vs ih =>
    intro l2 ρ h
    rw [List.cons_append, cntL_free (h v (by simp)), ih l2 ρ (fun x hx => h x (by simp [hx])), List.length_cons, Nat.pow_succ]
    rw [Nat.mul_comm (2 ^ vs.length) 2, Nat.mul_assoc]
theorem cntL_if {F G : Env → Bool} {v : Nat} {b : Bool} (h : ∀ ρ : Env, ρ v = b → F ρ = G ρ) : ∀ (l : List Nat) (ρ : Env), v ∉ l → ρ v = b → cntL F l ρ = cntL G l ρ := by
  intro l
  induction l with
  | nil => intro ρ _ e; unfold cntL; rw [h ρ e]
  | cons x xs ih =>
    intro ρ hv e
    have hx : v ≠ x := fun e => hv (by simp [e])
    have hxs : v ∉ xs := fun e => hv (by simp [e])
    simp only [cntL]
    rw [ih _ hxs (by rw [upd_other _ _ hx]; exact e), ih _ hxs (by rw [upd_other _ _ hx]; exact e)]
/-- a node's count -/
theorem cntL_node {v : Nat} {Fl Fh : Env → Bool} (hl : ∀ ρ b, Fl (upd ρ v b) = Fl ρ) (hh : ∀ ρ b, Fh (upd ρ v b) = Fh ρ) (l : List Nat) (hv : v ∉ l) (ρ : Env) : cntL (fun ρ => if ρ v then Fh ρ else Fl ρ) (v :: l) ρ = cntL Fl l ρ + cntL Fh l ρ := by
  simp only [cntL]
  rw [cntL_if (G := Fl) (b := false) (fun ρ e => by simp [e]) l _ hv (upd_same _ _ _), cntL_if (G := Fh) (b := true) (fun ρ e => by simp [e]) l _ hv (upd_same _ _ _), cntL_upd hl, cntL_upd hh]
theorem cntL_none (l : List Nat) (ρ : Env) : cntL (fun _ => false) l ρ = 0 := by
  induction l generalizing ρ with
  | nil => rfl
  | cons v vs ih => simp only [cntL, ih]
/-- a number times 2 to the n, in two words -/
def val (c : Nat × Nat) : Nat := c.1 * 18446744073709551616 + c.2
def ok2 (c : Nat × Nat) : Prop := c.1 < 18446744073709551616 ∧ c.2 < 18446744073709551616
def ofN (n : Nat) : Nat × Nat := (n / 18446744073709551616, n % 18446744073709551616)
theorem ofN_val (n : Nat) : val (ofN n) = n := by unfold val ofN; simp only; omega
theorem ofN_ok {n : Nat} (h : n < 340282366920938463463374607431768211456) : ok2 (ofN n) := by unfold ok2 ofN; simp only; omega
end Go.Proofs.YtgfjdkkfgclhjaaGreat.Bd
/- Counting along a rising list of variables, in plain words. No program is in sight. -/
namespace Go.Proofs.YtgfjdkkfgclhjaaGreat.Bd

abbrev Rise (l : List Nat) : Prop := l.Pairwise (· < ·)
/-- the variables of the list from t on, and how many there are ahead -/
def fromL (ov : List Nat) (t : Nat) : List Nat := ov.filter fun x => decide (t ≤ x)
def plc (ov : List Nat) (t : Nat) : Nat := (ov.filter fun x => decide (x < t)).length
theorem fromL_zero (ov : List Nat) : fromL ov 0 = ov := by unfold fromL; simp
theorem plc_zero (ov : List Nat) : plc ov 0 = 0 := by
  unfold plc
  rw [List.length_eq_zero_iff, List.filter_eq_nil_iff]
  intro x _; simp
theorem mem_fromL {ov : List Nat} {t x : Nat} : x ∈ fromL ov t ↔ x ∈ ov ∧ t ≤ x := by unfold fromL; simp
theorem split_at : ∀ {ov : List Nat}, Rise ov → ∀ {a b : Nat}, a ≤ b → fromL ov a = (ov.filter fun x => decide (a ≤ x ∧ x < b)) ++ fromL ov b := by
  intro ov
  induction ov with
  | nil => intro _ a b _; rfl
  | cons x xs ih =>
    intro h a b hab
    obtain ⟨h1, h2⟩ := List.pairwise_cons.1 h
    have e := ih h2 hab
    unfold fromL at e ⊢
    simp only [List.filter_cons]
    by_cases c1 : a ≤ x
    · by_cases c2 : x < b
      · rw [if_pos (by simpa using c1), if_pos (by simpa using ⟨c1, c2⟩), if_neg (by simpa using c2), e]
        rfl
      · have e1 : (xs.filter fun x => decide (a ≤ x ∧ x < b)) = [] := by
          rw [List.filter_eq_nil_iff]
          intro y hy
          have := h1 y hy
          simp; omega
        rw [if_pos (by simpa using c1), if_neg (by simp; omega), if_pos (by simp; omega), e, e1]
        rfl
    · rw [if_neg (by simpa using c1), if_neg (by simp; omega), if_neg (by simp; omega), e]
theorem plc_add : ∀ (ov : List Nat) {a b : Nat}, a ≤ b → plc ov b = plc ov a + (ov.filter fun x => decide (a ≤ x ∧ x < b)).length := by
  intro ov
  induction ov with
  | nil => intro a b _; rfl
  | cons x xs ih =>
    intro a b hab
    have e := ih hab
    unfold plc at e ⊢
    simp only [List.filter_cons]
    by_cases c1 : a ≤ x
    · by_cases c2 : x < b
      · rw [if_pos (by simpa using c2), if_neg (by simp; omega), if_pos (by simpa using ⟨c1, c2⟩)]
        simp only [List.length_cons]; omega
      · rw [if_neg (by simp; omega), if_neg (by simp; omega), if_neg (by simp; omega)]; exact e
    · rw [if_pos (by simp; omega), if_pos (by simp; omega), if_neg (by simp; omega)]
      simp only [List.length_cons]; omega
theorem one_at {ov : List Nat} (h : Rise ov) {t : Nat} (ht : t ∈ ov) : (ov.filter fun x => decide (t ≤ x ∧ x < t + 1)) = [t] := by
  induction ov with
  | nil => cases ht
  | cons x xs ih =>
    obtain ⟨h1, h2⟩ := List.pairwise_cons.1 h
    simp only [List.filter_cons]
    by_cases e : x = t
    · subst e
      rw [if_pos (by simp)]
      congr 1
      rw [List.filter_eq_nil_iff]
      intro y hy
      have := h1 y hy
      simp; omega
    · rw [if_neg (by simp; omega)]
      refine ih h2 ?_
      rcases List.mem_cons.1 ht with h | h
      · exact absurd h.symm e
      · exact h
theorem fromL_at {ov : List Nat} (h : Rise ov) {t : Nat} (ht : t ∈ ov) : fromL ov t = t :: fromL ov (t + 1) := by
  rw [split_at h (Nat.le_succ t), one_at h ht]; rfl
theorem plc_at {ov : List Nat} (h : Rise ov) {t : Nat} (ht : t ∈ ov) : plc ov (t + 1) = plc ov t + 1 := by
  rw [plc_add ov (Nat.le_succ t), one_at h ht]; rfl
theorem plc_le (ov : List Nat) (t : Nat) : plc ov t ≤ ov.length := List.length_filter_le _ _
theorem plc_mono (ov : List Nat) {a b : Nat} (h : a ≤ b) : plc ov a ≤ plc ov b := by rw [plc_add ov h]; omega
theorem plc_all {ov : List Nat} {t : Nat} (h : ∀ x ∈ ov, x < t) : plc ov t = ov.length := by
  unfold plc
  rw [List.filter_eq_self.2 (fun x hx => by simpa using h x hx)]
theorem fromL_len {ov : List Nat} (t : Nat) : (fromL ov t).length + plc ov t = ov.length := by
  unfold fromL plc
  induction ov with
  | nil => rfl
  | cons x xs ih =>
    simp only [List.filter_cons]
    by_cases c : t ≤ x
    · rw [if_pos (by simpa using c), if_neg (by simp; omega)]; simp only [List.length_cons]; omega
    · rw [if_neg (by simpa using c), if_pos (by simp; omega)]; simp only [List.length_cons]; omega
/-- what stands ahead of its first variable counts twice each -/
theorem cnt_skip {ov : List Nat} (h : Rise ov) {F : Env → Bool} {a t : Nat} (hat : a ≤ t) (hF : ∀ v, v < t → ∀ ρ b, F (upd ρ v b) = F ρ) (ρ : Env) : cntL F (fromL ov a) ρ = cntL F (fromL ov t) ρ * 2 ^ (plc ov t - plc ov a) := by
  rw [split_at h hat, cntL_frees _ _ _ (fun v hv => hF v (by have := (List.mem_filter.1 hv).2; simp at this; omega)), plc_add ov hat, Nat.mul_comm]
  congr 2
  omega
/-- a node's count, out of its halves' -/
theorem cnt_node {ov : List Nat} (h : Rise ov) {Fl Fh : Env → Bool} {t tl th : Nat} (ht : t ∈ ov) (h1 : t < tl) (h2 : t < th) (hl : ∀ v, v < tl → ∀ ρ b, Fl (upd ρ v b) = Fl ρ) (hh : ∀ v, v < th → ∀ ρ b, Fh (upd ρ v b) = Fh ρ) (ρ : Env) :
    cntL (fun ρ => if ρ t then Fh ρ else Fl ρ) (fromL ov t) ρ = cntL Fl (fromL ov tl) ρ * 2 ^ (plc ov tl - plc ov t - 1) + cntL Fh (fromL ov th) ρ * 2 ^ (plc ov th - plc ov t - 1) := by
  rw [fromL_at h ht, cntL_node (hl t h1) (hh t h2) _ (fun hx => by have := (mem_fromL.1 hx).2; omega), cnt_skip h (show t + 1 ≤ tl from h1) hl, cnt_skip h (show t + 1 ≤ th from h2) hh, plc_at h ht]
  congr 3 <;> omega
theorem cnt_lt {ov : List Nat} (F : Env → Bool) (t : Nat) (ρ : Env) (hn : ov.length ≤ 127) : cntL F (fromL ov t) ρ * 2 ^ plc ov t < 340282366920938463463374607431768211456 ∧ cntL F (fromL ov t) ρ * 2 ^ plc ov t ≤ 170141183460469231731687303715884105728 := by
  have h1 := cntL_le F (fromL ov t) ρ
  have h2 := Nat.mul_le_mul_right (2 ^ plc ov t) h1
  rw [← Nat.pow_add, fromL_len] at h2
  have h3 : 2 ^ ov.length ≤ 2 ^ 127 := Nat.pow_le_pow_right (by omega) hn
  have h4 : 2 ^ 127 = 170141183460469231731687303715884105728 := by decide
  omega
end Go.Proofs.YtgfjdkkfgclhjaaGreat.Bd
/- The least values for which a function is true, in plain words. No program is in sight. -/
namespace Go.Proofs.YtgfjdkkfgclhjaaGreat.Bd

/-- down from node i, along the variables of a list: a bit is set only where it must be -/
def lst (nd : List Nd) : List Nat → Nat → List Bool
  | [], _ => []
  | v :: vs, i => match nd[i]? with
    | some (t, lo, hi) => if 2 ≤ i ∧ t = v then decide (lo = 0) :: lst nd vs (if lo = 0 then hi else lo) else false :: lst nd vs i
    | none => false :: lst nd vs i
theorem lst_len (nd : List Nd) : ∀ (vs : List Nat) (i : Nat), (lst nd vs i).length = vs.length := by
  intro vs
  induction vs with
  | nil => intro i; rfl
  | cons v vs ih =>
    intro i
    unfold lst
    split
    · split <;> simp [ih]
    · simp [ih]
theorem lst_hit {nd : List Nd} {v : Nat} {vs : List Nat} {i lo hi : Nat} (h : nd[i]? = some (v, lo, hi)) (h2 : 2 ≤ i) : lst nd (v :: vs) i = decide (lo = 0) :: lst nd vs (if lo = 0 then hi else lo) := by
  rw [lst, h]
  simp only
  rw [if_pos ⟨h2, trivial⟩]
theorem lst_miss {nd : List Nd} {v t : Nat} {vs : List Nat} {i lo hi : Nat} (h : nd[i]? = some (t, lo, hi)) (h2 : ¬ (2 ≤ i ∧ t = v)) : lst nd (v :: vs) i = false :: lst nd vs i := by
  rw [lst, h]
  simp only
  rw [if_neg h2]
/-- values that go along a list -/
def Along (vs : List Nat) (l : List Bool) (n : Nat) (σ : Env) : Prop := ∀ (j v : Nat) (b : Bool), j < n → vs[j]? = some v → l[j]? = some b → σ v = b
theorem Along.tail {v : Nat} {vs : List Nat} {b : Bool} {l : List Bool} {n : Nat} {σ : Env} (h : Along (v :: vs) (b :: l) (n + 1) σ) : σ v = b ∧ Along vs l n σ :=
  ⟨h 0 v b (by omega) rfl rfl, fun j x c hj hx hc => h (j + 1) x c (by omega) (by simpa using hx) (by simpa using hc)⟩
variable {S : Nat → Bool} {nd : List Nd}
end Go.Proofs.YtgfjdkkfgclhjaaGreat.Bd
/- Maps of the call's own whose elements are two uint64, told by a function on keys. No program is in sight. -/
namespace Go.Proofs.YtgfjdkkfgclhjaaGreat.Bd
open Go Go.Maps

abbrev Cn := Nat × Nat
def cEl (c : Cn) : Value := .agg #[.int .u64 c.1, .int .u64 c.2]
def cDt (c : Cn) : DataW Unit := .agg [.lit (.int .u64 c.1), .lit (.int .u64 c.2)]
def cRd (v : Value) : Option (DataW Unit × List MemPlace) :=
  match v with
  | .agg ⟨[.int .u64 h, .int .u64 l]⟩ => some (.agg [.lit (.int .u64 h), .lit (.int .u64 l)], [])
  | _ => none
theorem cRd_el (c : Cn) : cRd (cEl c) = some (cDt c, []) := rfl
theorem cRd_inv {v : Value} {z : DataW Unit × List MemPlace} (h : cRd v = some z) : ∃ a b : Int, v = .agg #[.int .u64 a, .int .u64 b] ∧ z.1 = .agg [.lit (.int .u64 a), .lit (.int .u64 b)] := by
  unfold cRd at h
  split at h
  · cases h; exact ⟨_, _, rfl, rfl⟩
  · cases h
theorem cRd_dt {v : Value} {z : DataW Unit × List MemPlace} (h : cRd v = some z) {c : Cn} (hz : z.1 = cDt c) : v = cEl c := by
  obtain ⟨a, b, rfl, e⟩ := cRd_inv h
  rw [e] at hz
  unfold cDt at hz
  simp only [DataW.agg.injEq, List.cons.injEq, DataW.lit.injEq, Lit.int.injEq, true_and, and_true] at hz
  obtain ⟨h1, h2⟩ := hz
  subst h1 h2
  rfl
variable {P : Program} {w : World} {k e t : TypeId} {b n : Nat} {α : Type} {en : α → Value}
/-- block b: keys read through f; elements: pairs of uint64 -/
def MCnt (P : Program) (w : World) (k : TypeId) (b n : Nat) (en : α → Value) (f : α → Option Cn) : Prop :=
  ∃ D : DataW Unit, w.ownsMap P k cRd b n D ∧ ∀ x kl, keyOf P k (en x) = some kl → Maps.has D kl = (f x).isSome ∧ ∀ c, f x = some c → D.atKey kl (cDt (0, 0)) = cDt c
theorem MCnt.made (w : World) (k : TypeId) (en : α → Value) : MCnt P (w.alloc (.map #[] 0)) k w.heap.size 0 en (fun _ => none) :=
  ⟨.map [], World.ownsMap_made w P k _, fun _ _ _ => ⟨rfl, fun _ h => by cases h⟩⟩
theorem MCnt.kept {w' : World} {row : Option Nat} {f : α → Option Cn} (h : MCnt P w k b n en f) (hg : w.grownBy w' row) (hne : some b ≠ row) : MCnt P w' k b n en f := by
  obtain ⟨D, h1, h2⟩ := h
  exact ⟨D, h1.kept hg hne, h2⟩
theorem MCnt.lt {f : α → Option Cn} (h : MCnt P w k b n en f) : b < w.heap.size := by obtain ⟨D, h1, _⟩ := h; exact h1.lt
theorem MCnt.setCell {f : α → Option Cn} (h : MCnt P w k b n en f) {a : Addr} (ha : b ≠ a.block) (u : Value) : MCnt P (w.setCell a u) k b n en f := by
  obtain ⟨D, h1, h2⟩ := h
  exact ⟨D, h1.setCell ha u, h2⟩
theorem MCnt.heap {f : α → Option Cn} (h : MCnt P w k b n en f) : ∃ es cl, w.heap[b]? = some (.map es cl) := by
  obtain ⟨D, ⟨es, cl, hb, _⟩, _⟩ := h
  exact ⟨es, cl, hb⟩
theorem MCnt.look {f : α → Option Cn} (h : MCnt P w k b n en f) (K : Keyed P k) (ht : P.underlying t = some (.map k e)) (hz : (zeroValue e).run P w = .ok (cEl (0, 0)) w) {key : α} {kl : Lit} (hkey : keyOf P k (en key) = some kl) :
    (Instr.lookup t (.map (some b)) (en key) true).run P w = .ok (.tuple #[cEl ((f key).getD (0, 0)), .bool (f key).isSome]) w := by
  obtain ⟨D, h1, h2⟩ := h
  obtain ⟨v, ps, hrun, hv⟩ := h1.look_ok K ht hz (cRd_el (0, 0)) hkey
  obtain ⟨g1, g2⟩ := h2 key kl hkey
  rw [g1] at hrun
  cases hf : f key with
  | none =>
    rw [hf] at g1
    rw [atKey_of_not_has g1] at hv
    have := cRd_dt hv (c := (0, 0)) rfl
    subst this
    rw [hrun, hf]; rfl
  | some c' =>
    rw [g2 c' hf] at hv
    have := cRd_dt hv (c := c') rfl
    subst this
    rw [hrun, hf]; rfl
theorem MCnt.store [DecidableEq α] {f : α → Option Cn} (h : MCnt P w k b n en f) (K : Keyed P k) (ht : P.underlying t = some (.map k e)) (hn : n < maxLen) (inj : ∀ x y, en x = en y → x = y) {key : α} {kl : Lit} (hkey : keyOf P k (en key) = some kl) (c : Cn) :
    ∃ w', (Instr.mapUpdate t (.map (some b)) (en key) (cEl c)).run P w = .ok () w' ∧ MCnt P w' k b (n + 1) en (fun x => if x = key then some c else f x) ∧ w.mapTurned w' b := by
  obtain ⟨D, h1, h2⟩ := h
  obtain ⟨w', hrun, g1, g2⟩ := h1.store K ht hn hkey (cRd_el c)
  refine ⟨w', hrun, ⟨_, g1, fun key' kl' hkey' => ?_⟩, g2⟩
  have hD := (h1.tidy K).isMap
  by_cases hq : key' = key
  · subst hq
    obtain rfl : kl' = kl := Option.some.inj (hkey'.symm.trans hkey)
    refine ⟨by rw [has_put_same hD (K.key hkey)]; simp, fun c' hc' => ?_⟩
    simp only [if_true] at hc'
    cases hc'
    exact atKey_put_same hD (K.key hkey) _ _
  · have hne : kl' ≠ kl := fun e => hq (inj _ _ (K.inj hkey' (e ▸ hkey)))
    rw [has_put_other hne, atKey_put_other hne]
    simp only [if_neg hq]
    exact h2 key' kl' hkey'
section
variable {ops : Array Oper} {rest : List Oper} {o : Oper} {a : Act} {Q : Exit → Act → World → Prop}
theorem wpList_putC [DecidableEq α] (hg : o.guard = none) (m x v : Operand) (hop : o.op = Op.mapUpdate t m x v) {f : α → Option Cn} (h : MCnt P w k b n en f) (K : Keyed P k) (ht : P.underlying t = some (.map k e)) (hn : n < maxLen) (inj : ∀ x y, en x = en y → x = y)
    (hm : a.eval m = .map (some b)) (key : α) (kl : Lit) (hx : a.eval x = en key) (hkey : keyOf P k (en key) = some kl) (c : Cn) (hv : a.eval v = cEl c)
    (hK : ∀ w', MCnt P w' k b (n + 1) en (fun x => if x = key then some c else f x) → w.mapTurned w' b → wpList P ops Q rest (a.put o.dst undef) w') : wpList P ops Q (o :: rest) a w := by
  refine wpList_plain hg fun K' hK' => ?_
  obtain ⟨w', hrun, r1, r2⟩ := h.store K ht hn inj hkey c
  unfold Oper.wp
  simp [execOp, hop, hm, hx, hv, hrun, Result.andThen]
  exact hK' _ _ (hK w' r1 r2)
theorem wpList_insC [DecidableEq α] (hg : o.guard = none) (m x v : Operand) (hop : o.op = Op.insert t m x v) {f : α → Option Cn} (h : MCnt P w k b n en f) (K : Keyed P k) (ht : P.underlying t = some (.map k e)) (hn : n < maxLen) (inj : ∀ x y, en x = en y → x = y)
    (hm : a.eval m = .map (some b)) (key : α) (kl : Lit) (hx : a.eval x = en key) (hkey : keyOf P k (en key) = some kl) (c : Cn) (hv : a.eval v = cEl c)
    (hK : ∀ w', MCnt P w' k b (n + 1) en (fun x => if x = key then some c else f x) → w.mapTurned w' b → wpList P ops Q rest (a.put o.dst undef) w') : wpList P ops Q (o :: rest) a w := by
  refine wpList_plain hg fun K' hK' => ?_
  obtain ⟨w', hrun, r1, r2⟩ := h.store K ht hn inj hkey c
  unfold Oper.wp
  simp [execOp, hop, hm, hx, hv, hrun, Result.andThen]
  exact hK' _ _ (hK w' r1 r2)
end
end Go.Proofs.YtgfjdkkfgclhjaaGreat.Bd
/- times: a number times 2 to the n, in two words. -/
namespace Go.Proofs.YtgfjdkkfgclhjaaGreat.Bd
open Go.RowKit Go.Proofs.YtgfjdkkfgclhjaaGreat Go.Proofs.YtgfjdkkfgclhjaaGreat.Lx Go.Maps

/-- the two words, as the machine reckons them -/
theorem shift_words {hi lo n m : Nat} (h2 : lo < 18446744073709551616) (hm : m + n = 64) (hv : val (hi, lo) * 2 ^ n < 340282366920938463463374607431768211456) :
    bits .or .u64 (IntKind.u64.wrap ((hi : Int) * 2 ^ n)) ((lo : Int) / 2 ^ m) = ((ofN (val (hi, lo) * 2 ^ n)).1 : Int) ∧ IntKind.u64.wrap ((lo : Int) * 2 ^ n) = ((ofN (val (hi, lo) * 2 ^ n)).2 : Int) := by
  have hPQ : 2 ^ m * 2 ^ n = 18446744073709551616 := by rw [← Nat.pow_add, hm]
  have hP : 0 < 2 ^ n := Nat.two_pow_pos n
  have hQ : 0 < 2 ^ m := Nat.two_pow_pos m
  have cast : ∀ a : Nat, ((a : Int) * 2 ^ n) = ((a * 2 ^ n : Nat) : Int) := fun a => by push_cast; rfl
  have castd : ((lo : Int) / 2 ^ m) = ((lo / 2 ^ m : Nat) : Int) := by push_cast; rfl
  unfold val at hv ⊢
  simp only at hv ⊢
  have e0 : (hi * 18446744073709551616 + lo) * 2 ^ n = hi * 2 ^ n * 18446744073709551616 + lo * 2 ^ n := by
    rw [Nat.add_mul, Nat.mul_assoc, Nat.mul_comm 18446744073709551616 (2 ^ n), ← Nat.mul_assoc]
  rw [e0] at hv ⊢
  have hhi : hi * 2 ^ n < 18446744073709551616 := by omega
  have hld : lo / 2 ^ m < 2 ^ n := by
    rw [Nat.div_lt_iff_lt_mul hQ, Nat.mul_comm, hPQ]; exact h2
  have hdv : lo * 2 ^ n / 18446744073709551616 = lo / 2 ^ m := by
    rw [← hPQ]
    exact Nat.mul_div_mul_right _ _ hP
  have hdm := Nat.div_add_mod (lo * 2 ^ n) 18446744073709551616
  rw [hdv] at hdm
  have hmod := Nat.mod_lt (lo * 2 ^ n) (show 18446744073709551616 > 0 by omega)
  have hor : hi * 2 ^ n ||| lo / 2 ^ m = hi * 2 ^ n + lo / 2 ^ m := by
    rw [Nat.mul_comm, ← Nat.two_pow_add_eq_or_of_lt hld]
  have hs : hi * 2 ^ n + lo / 2 ^ m < 18446744073709551616 := by omega
  rw [cast, cast, castd, IntKind.wrap_u64, IntKind.wrap_u64]
  have w1 : ((hi * 2 ^ n : Nat) : Int) % 18446744073709551616 = ((hi * 2 ^ n : Nat) : Int) := by omega
  rw [w1, u64_or_nat _ _ hhi (by have : lo / 2 ^ m ≤ lo := Nat.div_le_self _ _; omega), hor]
  unfold ofN
  simp only
  generalize hi * 2 ^ n = A at *
  generalize lo * 2 ^ n = B at *
  generalize lo / 2 ^ m = C at *
  constructor
  · congr 1
    omega
  · omega
theorem two_boxes (w : World) (a b : Array Value) (ta tb : TypeId) : ((w.alloc (.cells a ta)).alloc (.cells b tb)).heap[w.heap.size]? = some (.cells a ta (0, 0)) ∧ ((w.alloc (.cells a ta)).alloc (.cells b tb)).heap[w.heap.size + 1]? = some (.cells b tb (0, 0)) ∧ Below w.heap.size w ((w.alloc (.cells a ta)).alloc (.cells b tb)) := by
  refine ⟨heap_old (heap_new _ _), ?_, bel_two w _ _⟩
  have := heap_new (w.alloc (.cells a ta)) (.cells b tb)
  rw [show (w.alloc (.cells a ta)).heap.size = w.heap.size + 1 by simp] at this
  exact this
set_option maxHeartbeats 1000000 in
set_option maxRecDepth 100000 in
theorem times_small (hi lo n : Nat) (w : World) (h1 : hi < 18446744073709551616) (h2 : lo < 18446744073709551616) (hn : n < 64) (hv : val (hi, lo) * 2 ^ n < 340282366920938463463374607431768211456) :
    Calls Tryz.prog 46 #[cEl (hi, lo), .int .i64 n] w fun e w' => e = .returned (cEl (ofN (val (hi, lo) * 2 ^ n))) ∧ Below w.heap.size w w' := by
  unfold cEl
  have d1 : decide ((64 : Int) ≤ n) = false := by simp; omega
  simp only
  have HX := hide (two_boxes w #[.int .u64 hi, .int .u64 lo] #[.int .u64 0, .int .u64 0] 61 61)
  obtain ⟨m, hm⟩ : ∃ m : Nat, m + n = 64 := ⟨64 - n, by omega⟩
  have HE := hide (shift_words h2 hm hv)
  have hw : IntKind.i64.wrap (64 - (n : Int)) = (m : Int) := by rw [IntWalk.i64_in _ (by omega)]; omega
  have hm64 : m ≤ 64 := by omega
  clear hv hm
  go_enter Tryz.func46, Tryz.ntmps46
  go_wp2_with fail
  generalize (w.alloc (.cells #[.int .u64 hi, .int .u64 lo] 61)).alloc (.cells #[.int .u64 0, .int .u64 0] 61) = w1 at *
  have c0 : w1.drew.cell? ⟨w.heap.size, 0, none⟩ = some (.int .u64 hi) := cell_heap HX.out.1 rfl
  have c1 : w1.drew.cell? ⟨w.heap.size, 1, none⟩ = some (.int .u64 lo) := cell_heap HX.out.1 rfl
  have f2 : w1.drew.frozen? ⟨w.heap.size + 1, 0, none⟩ = false := frozen_heap HX.out.2.1
  have f3 : ∀ u, (w1.drew.setCell ⟨w.heap.size + 1, 0, none⟩ u).frozen? ⟨w.heap.size + 1, 1, none⟩ = false := fun u => frozen_heap (heap_set HX.out.2.1)
  have c2 : w1.drew.cell? ⟨w.heap.size + 1, 0, none⟩ = some (.int .u64 0) := cell_heap HX.out.2.1 rfl
  have c3 : ∀ u, (w1.drew.setCell ⟨w.heap.size + 1, 0, none⟩ u).cell? ⟨w.heap.size + 1, 1, none⟩ = some (.int .u64 0) := fun u => cell_heap (heap_set HX.out.2.1) rfl
  go_still_tail 15, (by kernel_rfl)
  change wpList _ _ _ _ _ w1.drew
  have HY := hide (show w1.drew.heap[w.heap.size + 1]? = some (.cells #[.int .u64 0, .int .u64 0] 61 (0, 0)) ∧ Below w.heap.size w w1.drew from ⟨HX.out.2.1, HX.out.2.2.drew⟩)
  generalize w1.drew = w2 at *
  go_wp2_with fail
  rw [HE.out.1, HE.out.2]
  have y2 := HY.out.1
  have y3 := HY.out.2
  have q0 := cell_heap (j := 0) (heap_set (j := 1) (u := .int .u64 ((ofN (val (hi, lo) * 2 ^ n)).2 : Int)) (heap_set (j := 0) (u := .int .u64 ((ofN (val (hi, lo) * 2 ^ n)).1 : Int)) y2)) rfl
  have q1 := cell_heap (j := 1) (heap_set (j := 1) (u := .int .u64 ((ofN (val (hi, lo) * 2 ^ n)).2 : Int)) (heap_set (j := 0) (u := .int .u64 ((ofN (val (hi, lo) * 2 ^ n)).1 : Int)) y2)) rfl
  have hB := (y3.setCell (p := ⟨w.heap.size + 1, 0, none⟩) (by simp) (.int .u64 ((ofN (val (hi, lo) * 2 ^ n)).1 : Int))).setCell (p := ⟨w.heap.size + 1, 1, none⟩) (by simp) (.int .u64 ((ofN (val (hi, lo) * 2 ^ n)).2 : Int))
  generalize ((w2.setCell ⟨w.heap.size + 1, 0, none⟩ (.int .u64 ((ofN (val (hi, lo) * 2 ^ n)).1 : Int))).setCell ⟨w.heap.size + 1, 1, none⟩ (.int .u64 ((ofN (val (hi, lo) * 2 ^ n)).2 : Int))) = w9 at *
  exact bodyPost_ret (v := .agg #[.int .u64 ((ofN (val (hi, lo) * 2 ^ n)).1 : Int), .int .u64 ((ofN (val (hi, lo) * 2 ^ n)).2 : Int)]) (by simp [results, Tryz.results46, go_sem, q0, q1]) rfl ⟨rfl, hB⟩
set_option maxHeartbeats 1000000 in
set_option maxRecDepth 100000 in
theorem times_big (lo n : Nat) (w : World) (h2 : lo < 18446744073709551616) (hn : n < 64) (hv : val (lo, 0) * 2 ^ n < 340282366920938463463374607431768211456) :
    Calls Tryz.prog 46 #[cEl (0, lo), .int .i64 ((n : Int) + 64)] w fun e w' => e = .returned (cEl (ofN (val (lo, 0) * 2 ^ n))) ∧ Below w.heap.size w w' := by
  unfold cEl
  have d1 : decide ((64 : Int) ≤ (n : Int) + 64) = true := by simp; omega
  show Calls Tryz.prog 46 #[.agg #[.int .u64 0, .int .u64 lo], .int .i64 ((n : Int) + 64)] w _
  have HX := hide (two_boxes w #[.int .u64 lo, .int .u64 0] #[.int .u64 0, .int .u64 0] 61 61)
  obtain ⟨m, hm⟩ : ∃ m : Nat, m + n = 64 := ⟨64 - n, by omega⟩
  have HE : Hid (bits .or .u64 (IntKind.u64.wrap ((lo : Int) * 2 ^ n)) 0 = ((ofN (val (lo, 0) * 2 ^ n)).1 : Int) ∧ ((ofN (val (lo, 0) * 2 ^ n)).2 : Int) = 0) := by
    obtain ⟨a, b⟩ := shift_words (hi := lo) (lo := 0) (by omega) hm hv
    rw [show (((0 : Nat) : Int) / 2 ^ m) = 0 by simp] at a
    rw [show (((0 : Nat) : Int) * 2 ^ n) = 0 by simp, show IntKind.u64.wrap 0 = 0 from rfl] at b
    exact ⟨a, b.symm⟩
  have hw : IntKind.i64.wrap (64 - (n : Int)) = (m : Int) := by rw [IntWalk.i64_in _ (by omega)]; omega
  have hm64 : m ≤ 64 := by omega
  clear hv hm
  go_enter Tryz.func46, Tryz.ntmps46
  go_wp2_with fail
  generalize (w.alloc (.cells #[.int .u64 lo, .int .u64 0] 61)).alloc (.cells #[.int .u64 0, .int .u64 0] 61) = w1 at *
  have c0 : w1.drew.cell? ⟨w.heap.size, 0, none⟩ = some (.int .u64 lo) := cell_heap HX.out.1 rfl
  have c1 : w1.drew.cell? ⟨w.heap.size, 1, none⟩ = some (.int .u64 0) := cell_heap HX.out.1 rfl
  have f2 : w1.drew.frozen? ⟨w.heap.size + 1, 0, none⟩ = false := frozen_heap HX.out.2.1
  have f3 : ∀ u, (w1.drew.setCell ⟨w.heap.size + 1, 0, none⟩ u).frozen? ⟨w.heap.size + 1, 1, none⟩ = false := fun u => frozen_heap (heap_set HX.out.2.1)
  have c2 : w1.drew.cell? ⟨w.heap.size + 1, 0, none⟩ = some (.int .u64 0) := cell_heap HX.out.2.1 rfl
  have c3 : ∀ u, (w1.drew.setCell ⟨w.heap.size + 1, 0, none⟩ u).cell? ⟨w.heap.size + 1, 1, none⟩ = some (.int .u64 0) := fun u => cell_heap (heap_set HX.out.2.1) rfl
  go_still_tail 15, (by kernel_rfl)
  change wpList _ _ _ _ _ w1.drew
  have HY := hide (show w1.drew.heap[w.heap.size + 1]? = some (.cells #[.int .u64 0, .int .u64 0] 61 (0, 0)) ∧ Below w.heap.size w w1.drew from ⟨HX.out.2.1, HX.out.2.2.drew⟩)
  generalize w1.drew = w2 at *
  go_wp2_with fail
  rw [HE.out.1, HE.out.2]
  have y2 := HY.out.1
  have y3 := HY.out.2
  have q0 := cell_heap (j := 0) (heap_set (j := 1) (u := .int .u64 0) (heap_set (j := 0) (u := .int .u64 ((ofN (val (lo, 0) * 2 ^ n)).1 : Int)) y2)) rfl
  have q1 := cell_heap (j := 1) (heap_set (j := 1) (u := .int .u64 0) (heap_set (j := 0) (u := .int .u64 ((ofN (val (lo, 0) * 2 ^ n)).1 : Int)) y2)) rfl
  have hB := (y3.setCell (p := ⟨w.heap.size + 1, 0, none⟩) (by simp) (.int .u64 ((ofN (val (lo, 0) * 2 ^ n)).1 : Int))).setCell (p := ⟨w.heap.size + 1, 1, none⟩) (by simp) (.int .u64 0)
  generalize ((w2.setCell ⟨w.heap.size + 1, 0, none⟩ (.int .u64 ((ofN (val (lo, 0) * 2 ^ n)).1 : Int))).setCell ⟨w.heap.size + 1, 1, none⟩ (.int .u64 0)) = w9 at *
  exact bodyPost_ret (v := .agg #[.int .u64 ((ofN (val (lo, 0) * 2 ^ n)).1 : Int), .int .u64 0]) (by simp [results, Tryz.results46, go_sem, q0, q1]) rfl ⟨rfl, hB⟩
end Go.Proofs.YtgfjdkkfgclhjaaGreat.Bd
/- rises: a list that rises, and has all on which a function hangs. -/
namespace Go.Proofs.YtgfjdkkfgclhjaaGreat.Bd
open Go.RowKit Go.Proofs.YtgfjdkkfgclhjaaGreat Go.Proofs.YtgfjdkkfgclhjaaGreat.Lx Go.Maps

theorem big_div {V P : Nat} (h : V * P * 18446744073709551616 < 340282366920938463463374607431768211456) : V * P < 18446744073709551616 := by
  generalize V * P = X at *
  omega
theorem pow_split (k : Nat) : 2 ^ (k + 64) = 2 ^ k * 18446744073709551616 := by
  rw [Nat.pow_add]
theorem hi_zero {hi lo P : Nat} (hP : 0 < P) (h : val (hi, lo) * P < 18446744073709551616) : hi = 0 := by
  have h0 : val (hi, lo) < 18446744073709551616 := Nat.lt_of_le_of_lt (Nat.le_mul_of_pos_right _ hP) h
  unfold val at h0
  simp only at h0
  omega
theorem val_turn (lo P : Nat) : val (lo, 0) * P = val (0, lo) * P * 18446744073709551616 := by
  have a : val (lo, 0) = lo * 18446744073709551616 := Nat.add_zero _
  have b : val (0, lo) = lo := by
    show 0 * 18446744073709551616 + lo = lo
    rw [Nat.zero_mul, Nat.zero_add]
  rw [a, b]
  exact Nat.mul_right_comm _ _ _
theorem times_any (c : Cn) (n : Nat) (w : World) (hc : ok2 c) (hv : val c * 2 ^ n < 340282366920938463463374607431768211456) (hn : n < 128) :
    Calls Tryz.prog 46 #[cEl c, .int .i64 n] w fun e w' => e = .returned (cEl (ofN (val c * 2 ^ n))) ∧ Below w.heap.size w w' := by
  obtain ⟨hi, lo⟩ := c
  obtain ⟨h1, h2⟩ := hc
  rcases Nat.lt_or_ge n 64 with h | h
  · exact times_small hi lo n w h1 h2 h hv
  · obtain ⟨k, hk⟩ : ∃ k, n = k + 64 := ⟨n - 64, by omega⟩
    rw [hk, pow_split, ← Nat.mul_assoc] at hv
    have hv2 := big_div hv
    obtain rfl := hi_zero (Nat.two_pow_pos k) hv2
    have := times_big lo k w h2 (by omega) (by rw [val_turn]; exact hv)
    rw [val_turn] at this
    rw [hk, pow_split, ← Nat.mul_assoc, show ((k + 64 : Nat) : Int) = (k : Int) + 64 from by push_cast; rfl]
    exact this
theorem src_of_own {w : World} {base e n c : Nat} {A : Option Addr} {xs : List Value} (h : w.ownsRow base e 1 (.slice A n c) n xs) : Src w A n c 1 xs := by
  refine ⟨h.1, ?_⟩
  rcases h.2 with ⟨h1, h2⟩ | ⟨g, cap, cur, h1, _⟩
  · injection h1 with a b c
    exact .inl ⟨a, h2, c⟩
  · injection h1 with a b c
    subst a
    refine .inr ⟨_, rfl, fun j u hu => ?_⟩
    have hl := h.1
    have hj := lt_of_some hu
    have := h.cellAt j (by omega)
    rw [show (Addr.add ⟨g, 0, none⟩ j) = ⟨g, j, none⟩ by unfold Addr.add; split <;> simp_all]
    exact this.trans hu
/-- the place of a variable in a rising list -/
theorem rise_get {ov : List Nat} (h : Rise ov) {t : Nat} (ht : t ∈ ov) : ov[plc ov t]? = some t ∧ ∀ y ∈ ov.take (plc ov t), y < t := by
  have e := split_at h (Nat.zero_le t)
  rw [fromL_zero, fromL_at h ht] at e
  have el : (ov.filter fun x => decide (0 ≤ x ∧ x < t)).length = plc ov t := by
    have := plc_add ov (Nat.zero_le t)
    rw [plc_zero] at this
    omega
  constructor
  · conv => lhs; arg 1; rw [e]
    rw [List.getElem?_append_right (by omega), el]
    simp
  · intro y hy
    have e2 : ov.take (plc ov t) = ov.filter fun x => decide (0 ≤ x ∧ x < t) := by
      conv => lhs; arg 2; rw [e]
      rw [← el, List.take_left]
    rw [e2] at hy
    have := (List.mem_filter.1 hy).2
    simp at this
    exact this
theorem idx_plc {ov : List Nat} (h : Rise ov) {t : Nat} (ht : t ∈ ov) : idxOf (fun x => (t : Int) == x) (encL ov) = plc ov t := by
  obtain ⟨h1, h2⟩ := rise_get h ht
  refine idxOf_at (x := (t : Int)) (by unfold encL; rw [List.getElem?_map, h1]; rfl) (by simp) (fun y hy => ?_)
  unfold encL at hy
  rw [← List.map_take] at hy
  obtain ⟨z, hz, rfl⟩ := List.mem_map.1 hy
  have := h2 z hz
  simp
  omega
theorem call_rises (xs : Array Value) (w : World) : (callFunc 69 xs).run Tryz.prog w = .ok (.enter 69 xs) w :=
  call_enter Tryz.func69 (by kernel_rfl) (by kernel_rfl) xs w
def notIn (l : List Int) (v : Int) : Bool := !l.any fun x => v == x
set_option maxRecDepth 100000 in
theorem rises1_any (A : Option Addr) (c : Nat) (l : List Int) (v : Int) (b : Nat) (w : World) (hb : w.cell? ⟨b, 0, none⟩ = some (.slice A l.length c)) (hS : Src w A l.length c 1 (l.map encI)) (hn : l.length ≤ maxLen) :
    Calls Tryz.prog 69 #[.int .i64 v, .pointer (some ⟨b, 0, none⟩)] w fun e w' => e = .returned (.bool (notIn l v)) ∧ w = w' := by
  have HC := hide (contains_any A c l v w hS hn)
  have HV := hide (show notIn l v = !(l.any fun x => v == x) from rfl)
  generalize notIn l v = z at *
  generalize (l.any fun x => v == x) = y at *
  clear hS
  go_enter Tryz.func69, Tryz.ntmps69
  go_wp2_with ((with_reducible refine HC.out.mono ?_); rintro e w' ⟨rfl, rfl⟩)
  go_ret
  exact ⟨by rw [HV.out]; rfl, rfl⟩
/-- each is above the one ahead -/
def RiseI (l : List Int) (n : Nat) : Prop := ∀ (j : Nat) (x y : Int), j + 1 < n → l[j]? = some x → l[j + 1]? = some y → x < y
def RisesOut (vs : Nat) (nd : List Nd) (f : Nat) (l : List Int) (w : World) (e : Ending) (w' : World) : Prop :=
  (¬ RiseI l l.length ∧ e = .returned (.bool false) ∧ Below w.heap.size w w') ∨ (RiseI l l.length ∧ e = .returned (.bool (knownB vs l && !(supL nd f).any (notIn l))) ∧ Below w.heap.size w w')
theorem RiseI.next {l : List Int} {i : Nat} (h : RiseI l (i + 1)) {x y : Int} (hx : l[i]? = some x) (hy : l[i + 1]? = some y) (hxy : x < y) : RiseI l (i + 1 + 1) := by
  intro j a b hj ha hb
  by_cases e : j = i
  · subst e
    rw [hx] at ha
    rw [hy] at hb
    cases ha; cases hb
    exact hxy
  · exact h j a b (by omega) ha hb
set_option maxHeartbeats 2000000 in
set_option maxRecDepth 100000 in
theorem rises_any (k : Blk) (s : St) (f : Nat) (A : Option Addr) (c : Nat) (l : List Int) (w : World) (hA : Ar w k s) (g1 : s.gi f = true) (hf : f < s.nd.length) (hS : Src w A l.length c 1 (l.map encI)) (hn : l.length ≤ 20000000000000) (hm : s.m + 2 ≤ 1000000000) :
    Calls Tryz.prog 42 #[.pointer (some ⟨k.p, 0, none⟩), .int .i64 f, .slice A l.length c] w (RisesOut s.vs s.nd f l w) := by
  have hbl := bel_one w (.cells #[.slice A l.length c] 30)
  have x0 := heap_new w (.cells #[.slice A l.length c] 30)
  obtain ⟨W, hWd⟩ : ∃ W, W = (w.alloc (.cells #[.slice A l.length c] 30)) := ⟨_, rfl⟩
  rw [← hWd] at hbl x0
  have HA := hide hA
  have HB := hide hbl
  have HX := hide x0
  have HS := hide hS
  have HG := hide g1
  have y0 : W.cell? ⟨w.heap.size, 0, none⟩ = some (.slice A l.length c) := cell_heap x0 rfl
  have HSP := hide (Support_any k s f W (hA.below hbl) g1 hf hm)
  clear hA hbl x0 hS g1
  subst hWd
  go_enter Tryz.func42, Tryz.ntmps42
  go_wp2_with fail
  generalize w.alloc (.cells #[.slice A l.length c] 30) = W at *
  go_loop [7, 8, 13] (fun _ _ j => ∃ i : Nat, j = .int .i64 i ∧ i ≤ l.length ∧ RiseI l i) (fun _ _ j => l.length - (intOf j).toNat)
  case atStart => exact ⟨0, rfl, Nat.zero_le _, fun j x y hj => by omega⟩
  case round =>
    obtain ⟨i, rfl, hi, hR⟩ := hrel
    rcases Nat.lt_or_ge i l.length with hlt | hge
    · obtain ⟨x, hx⟩ : ∃ x, l[i]? = some x := ⟨_, List.getElem?_eq_getElem hlt⟩
      have d1 : decide (i < l.length) = true := by simpa using hlt
      have d2 : ((i : Int) < l.length) := by omega
      obtain ⟨ad, rfl, hc⟩ := src_at (Src.below HS.out HB.out) hx
      rcases Nat.eq_zero_or_pos i with rfl | hpos
      · have HR := hide (show RiseI l 1 from fun j a b hj => by omega)
        have hc0 : W.cell? ad = some (.int .i64 x) := hc
        clear hR
        go_wp2_with fail
        go_round
        case rel => exact ⟨1, rfl, by omega, HR.out⟩
        case measure => simp [intOf]; omega
      · obtain ⟨k', rfl⟩ : ∃ k', i = k' + 1 := ⟨i - 1, by omega⟩
        obtain ⟨y, hy⟩ : ∃ y, l[k']? = some y := ⟨_, List.getElem?_eq_getElem (by omega)⟩
        obtain ⟨ad', e', hc'⟩ := src_at (Src.below HS.out HB.out) hy
        cases e'
        have d3 : decide ((0 : Int) < ((k' + 1 : Nat) : Int)) = true := by simp
        have d4 : decide ((0 : Int) < (k' : Int) + 1) = true := by simp
        have d5 : ((k' : Int) < l.length) := by omega
        have hc1 : W.cell? ⟨ad.block, ad.off + (k' + 1), none⟩ = some (.int .i64 x) := hc
        cases hd : decide (x ≤ y)
        · have HR := hide (hR.next hy hx (by have := of_decide_eq_false hd; omega))
          clear hR
          go_wp2_with fail
          go_round
          case rel => exact ⟨k' + 1 + 1, by go_num, by omega, HR.out⟩
          case measure => simp [intOf]; omega
        · have HR := hide (show RisesOut s.vs s.nd f l w (.returned (.bool false)) W from .inl ⟨fun hr => by
            have := hr k' y x (by omega) hy hx
            have := of_decide_eq_true hd
            omega, rfl, HB.out⟩)
          clear hR
          go_wp2_with fail
          go_ret
          exact HR.out
    · have e : i = l.length := by omega
      have d1 : decide (i < l.length) = false := by simp; omega
      have HR := hide (show RiseI l l.length by rw [← e]; exact hR)
      clear hR
      subst e
      go_wp2_with fail
      refine HSP.out.mono ?_
      intro e w2 hh
      unfold SupOut at hh
      obtain ⟨v, rfl, hrow, hb⟩ := hh
      obtain ⟨A2, C2, rfl⟩ := own_slice hrow
      have HB2 := hide (below_wide HB.out hb)
      have y2 : w2.cell? ⟨w.heap.size, 0, none⟩ = some (.slice A l.length c) := cell_heap (heapB hb HX.out) rfl
      have HK := hide (known_any k s A c l w2 (HA.out.below HB2.out) (Src.below HS.out HB2.out) (by unfold maxLen; omega))
      have HROW := hide hrow
      have HX2 := hide (heapB hb HX.out)
      clear hrow hb HSP y0
      cases hk : knownB s.vs l
      · rw [hk] at HK
        have HZ : Hid (∀ w3, Below w2.heap.size w2 w3 → RisesOut s.vs s.nd f l w (.returned (.bool false)) w3) := fun w3 hb => .inr ⟨HR.out, by rw [hk]; rfl, below_wide HB2.out hb⟩
        go_wp2_with fail
        refine HK.out.mono ?_
        rintro e w3 ⟨rfl, hb⟩
        have HZ3 := hide (HZ.out w3 hb)
        clear hb
        go_wp2_with fail
        go_ret
        exact HZ3.out
      · rw [hk] at HK
        have HZ : Hid (∀ w3, Below w2.heap.size w2 w3 → RisesOut s.vs s.nd f l w (.returned (.bool !(supL s.nd f).any (notIn l))) w3) := fun w3 hb => .inr ⟨HR.out, by rw [hk]; rfl, below_wide HB2.out hb⟩
        go_wp2_with fail
        refine HK.out.mono ?_
        rintro e w3 ⟨rfl, hb⟩
        have hx3 := heapB hb HX2.out
        have hrow3 := own_below HROW.out hb
        have hnlen : (supL s.nd f).length ≤ maxLen := by
          unfold maxLen
          rcases hrow3.2 with ⟨_, h0⟩ | ⟨g, cap, cur, _, _, _, h1, h2, _⟩
          · omega
          · unfold maxLen at h2; omega
        have HCF := hide (containsFunc_any A2 C2 (supL s.nd f) 69 #[.pointer (some ⟨w.heap.size, 0, none⟩)] (notIn l) w3 (src_of_own hrow3) hnlen call_rises (fun x _ => rises1_any A c l x w.heap.size w3 (cell_heap hx3 rfl) (Src.below HS.out (below_wide HB2.out hb)) (by unfold maxLen; omega)))
        have HZ3 := hide (HZ.out w3 hb)
        clear hb hx3 hrow3
        generalize (supL s.nd f).any (notIn l) = z at *
        go_wp2_with fail
        refine HCF.out.mono ?_
        rintro e w4 ⟨rfl, rfl⟩
        go_wp2_with fail
        go_ret
        exact HZ3.out
end Go.Proofs.YtgfjdkkfgclhjaaGreat.Bd
/- Count: where a node's variable stands. -/
namespace Go.Proofs.YtgfjdkkfgclhjaaGreat.Bd
open Go.RowKit Go.Proofs.YtgfjdkkfgclhjaaGreat Go.Proofs.YtgfjdkkfgclhjaaGreat.Lx Go.Maps

set_option maxHeartbeats 1000000 in
set_option maxRecDepth 100000 in
theorem place_any (S : Nat → Bool) (k : Blk) (s : St) (f t : Nat) (F : Env → Bool) (A : Option Addr) (c : Nat) (ov : List Nat) (b5 b3 : Nat) (w : World) (hA : Ar w k s) (d : Den S s.nd f t F) (hov : Rise ov) (hall : ∀ x ∈ ov, x < 256) (hin : 2 ≤ f → t ∈ ov) (hS : Src w A ov.length c 1 ((encL ov).map encI)) (hn : ov.length ≤ 127) (c5 : w.cell? ⟨b5, 0, none⟩ = some (.slice A ov.length c)) (c3 : w.cell? ⟨b3, 0, none⟩ = some (.pointer (some ⟨k.p, 0, none⟩))) (hm : s.m + 2 ≤ 1000000000) :
    Calls Tryz.prog 43 #[.int .i32 f, .pointer (some ⟨b5, 0, none⟩), .pointer (some ⟨b3, 0, none⟩)] w fun e w' => e = .returned (.int .i64 (plc ov t)) ∧ Below w.heap.size w w' := by
  have hW := hA.wf
  have hnm := hA.nm
  have hfl := d.lt hW
  rcases Nat.lt_or_ge f 2 with h2 | h2
  · have d1 : decide ((f : Int) < 2) = true := by simp; omega
    obtain ⟨rfl, _⟩ := d.ends h2
    have HV := hide (plc_all hall)
    clear hA d hin hS
    go_enter Tryz.func43, Tryz.ntmps43
    go_wp2_with fail
    go_ret
    exact ⟨by rw [HV.out]; rfl, Below.refl _ _⟩
  · have d1 : decide ((f : Int) < 2) = false := by simp; omega
    obtain ⟨lo, hi, tl, th, Fl, Fh, hr, r1, r2, r3, r4, r5, r6, r7, dl, dh, _⟩ := d.row h2
    obtain ⟨_, _, H, _⟩ := hA
    have hfi : (f : Int) < s.nd.length := by omega
    have u5 := lat_cell c5
    have u3 := lat_cell c3
    have u2 := lat_cell H.c2
    have u0 := lat_cell (H.node hr).1
    have HI := hide (fun x => (index_any A c (encL ov) (t : Int) (lat w x) (by rw [encL_len]; exact Src.below hS (lat_below w x)) (by rw [encL_len]; unfold maxLen; omega)))
    rw [idx_plc hov (hin h2), encL_len] at HI
    clear hin hS d dl dh H c5 c3
    go_enter Tryz.func43, Tryz.ntmps43
    go_wp2_with fail
    refine wp_region_lat (by kernel_rfl) (by kernel_rfl) ?_
    repeat (first | go_big_quiet_step ((go_at_call 44; exact calls_lat_same (HI.out _))) | quiet_step ((go_at_call 44; exact calls_lat_same (HI.out _))))
    refine wpQuiet_nil ?_
    intro _ hlat
    obtain ⟨wq, rfl⟩ := hlat
    go_wp2_with fail
    go_ret
    exact ⟨rfl, lat_below w wq⟩
end Go.Proofs.YtgfjdkkfgclhjaaGreat.Bd
/- Count: the walk over a diagram. -/
namespace Go.Proofs.YtgfjdkkfgclhjaaGreat.Bd
open Go.RowKit Go.Proofs.YtgfjdkkfgclhjaaGreat Go.Proofs.YtgfjdkkfgclhjaaGreat.Lx Go.Maps

def z0 : Env := fun _ => false
/-- for how many values, from its own variable on -/
def cntN (ov : List Nat) (t : Nat) (F : Env → Bool) : Cn := ofN (cntL F (fromL ov t) z0)
structure DoneC (S : Nat → Bool) (nd : List Nd) (ov : List Nat) (fd : Int → Option Cn) : Prop where
  d0 : (fd 0).isSome = true
  d1 : (fd 1).isSome = true
  all : ∀ (i : Nat) c, fd i = some c → ∀ t F, Den S nd i t F → c = cntN ov t F
theorem DoneC.put {S : Nat → Bool} {nd : List Nd} {ov : List Nat} {fd : Int → Option Cn} (h : DoneC S nd ov fd) {f : Nat} (h2 : 2 ≤ f) {c : Cn} (hc : ∀ t F, Den S nd f t F → c = cntN ov t F) : DoneC S nd ov (fun x => if x = (f : Int) then some c else fd x) := by
  refine ⟨by rw [if_neg (by omega)]; exact h.d0, by rw [if_neg (by omega)]; exact h.d1, fun i c' hi => ?_⟩
  split at hi
  · rename_i e
    cases hi
    have : i = f := by omega
    subst this
    exact hc
  · exact h.all i c' hi
/-- what the walk has in memory -/
structure Cs (w : World) (p b1 b2 b3 b4 b5 db N : Nat) (sl : Value) (fd : Int → Option Cn) : Prop where
  c1 : w.heap[b1]? = some (.cells #[.map (some db)] 91 (0, 0))
  c2 : w.heap[b2]? = some (.cells #[.pointer (some ⟨p, 0, none⟩)] 24 (0, 0))
  c3 : w.heap[b3]? = some (.cells #[.func (.func 45) #[] #[.pointer (some ⟨b1, 0, none⟩), .pointer (some ⟨b2, 0, none⟩), .pointer (some ⟨b3, 0, none⟩), .pointer (some ⟨b4, 0, none⟩)]] 92 (0, 0))
  c4 : w.heap[b4]? = some (.cells #[.func (.func 43) #[] #[.pointer (some ⟨b5, 0, none⟩), .pointer (some ⟨b2, 0, none⟩)]] 90 (0, 0))
  c5 : w.heap[b5]? = some (.cells #[sl] 30 (0, 0))
  done : MCnt Tryz.prog w 21 db N enc3 fd
theorem Cs.ne {w : World} {p b1 b2 b3 b4 b5 db N : Nat} {sl : Value} {fd : Int → Option Cn} (h : Cs w p b1 b2 b3 b4 b5 db N sl fd) {i : Nat} {cs : Array Value} {t : TypeId} (hc : w.heap[i]? = some (.cells cs t (0, 0))) : some db ≠ some i := by
  obtain ⟨_, _, hs⟩ := h.done.heap
  exact opt_ne (Ne.symm (ne_kind hc hs))
theorem Cs.kept {w w' : World} {p b1 b2 b3 b4 b5 db N N' : Nat} {sl : Value} {fd fd' : Int → Option Cn} (h : Cs w p b1 b2 b3 b4 b5 db N sl fd) (hg : w.grownBy w' (some db)) (hd : MCnt Tryz.prog w' 21 db N' enc3 fd') : Cs w' p b1 b2 b3 b4 b5 db N' sl fd' :=
  ⟨heap_grown h.c1 hg (h.ne h.c1), heap_grown h.c2 hg (h.ne h.c2), heap_grown h.c3 hg (h.ne h.c3), heap_grown h.c4 hg (h.ne h.c4), heap_grown h.c5 hg (h.ne h.c5), hd⟩
theorem Cs.below {w w' : World} {p b1 b2 b3 b4 b5 db N : Nat} {sl : Value} {fd : Int → Option Cn} (h : Cs w p b1 b2 b3 b4 b5 db N sl fd) (hb : Below w.heap.size w w') : Cs w' p b1 b2 b3 b4 b5 db N sl fd :=
  h.kept (below_grown hb _) (h.done.kept (below_grown hb none) (by simp))
def CntOut (S : Nat → Bool) (nd : List Nd) (ov : List Nat) (w : World) (db N n : Nat) (c : Cn) (e : Ending) (w' : World) : Prop :=
  ∃ (N' : Nat) (fd' : Int → Option Cn), e = .returned (cEl c) ∧ w.grownBy w' (some db) ∧ N' + 1 ≤ N + 2 ^ n ∧ MCnt Tryz.prog w' 21 db N' enc3 fd' ∧ DoneC S nd ov fd'
structure CntHyp (S : Nat → Bool) (k : Blk) (s : St) (w0 : World) (A : Option Addr) (c : Nat) (ov : List Nat) : Prop where
  hA : Ar w0 k s
  hov : Rise ov
  hall : ∀ x ∈ ov, x < 256
  hin : ∀ x, S x = true → x ∈ ov
  hS : Src w0 A ov.length c 1 ((encL ov).map encI)
  hn : ov.length ≤ 127
  hm : s.m + 2 ≤ 1000000000
def CntAt (S : Nat → Bool) (k : Blk) (s : St) (w0 : World) (A : Option Addr) (c : Nat) (ov : List Nat) (b1 b2 b3 b4 b5 db n : Nat) : Prop :=
  ∀ (f t : Nat) (F : Env → Bool) (w : World) (N : Nat) (fd : Int → Option Cn), f < n → Den S s.nd f t F → Below w0.heap.size w0 w → Cs w k.p b1 b2 b3 b4 b5 db N (.slice A ov.length c) fd → DoneC S s.nd ov fd → N + 2 ^ nS S t ≤ 2000000000 →
    Calls Tryz.prog 45 #[.int .i32 f, .pointer (some ⟨b1, 0, none⟩), .pointer (some ⟨b2, 0, none⟩), .pointer (some ⟨b3, 0, none⟩), .pointer (some ⟨b4, 0, none⟩)] w (CntOut S s.nd ov w db N (nS S t) (cntN ov t F))
theorem zeroC (w : World) : (zeroValue 61).run Tryz.prog w = .ok (cEl (0, 0)) w := by
  exact Tryz.zeroValue61 w
set_option maxHeartbeats 2000000 in
set_option maxRecDepth 100000 in
theorem count_done (S : Nat → Bool) (k : Blk) (s : St) (w0 : World) (A : Option Addr) (c : Nat) (ov : List Nat) (b1 b2 b3 b4 b5 db : Nat) (H : CntHyp S k s w0 A c ov) (f t : Nat) (F : Env → Bool) (w : World) (N : Nat) (fd : Int → Option Cn) (d : Den S s.nd f t F) (hE : Cs w k.p b1 b2 b3 b4 b5 db N (.slice A ov.length c) fd) (hD : DoneC S s.nd ov fd) (cc : Cn) (hf : fd f = some cc) :
    Calls Tryz.prog 45 #[.int .i32 f, .pointer (some ⟨b1, 0, none⟩), .pointer (some ⟨b2, 0, none⟩), .pointer (some ⟨b3, 0, none⟩), .pointer (some ⟨b4, 0, none⟩)] w (CntOut S s.nd ov w db N (nS S t) (cntN ov t F)) := by
  have hW := H.hA.wf
  have hnm := H.hA.nm
  have hfl := d.lt hW
  have hm := H.hm
  have hcc := hD.all f cc hf t F d
  subst hcc
  have hb := bel_one w (.cells #[.int .u64 0, .int .u64 0] 61)
  have hE1 := hE.below hb
  have k1 := cell_heap (j := 0) hE1.c1 rfl
  have lk := hE1.done.look keyed3 Tryz.underlying91 (zeroC _) (key3 f (by omega) (by omega))
  rw [hf] at lk
  simp only [Option.getD_some, Option.isSome_some] at lk
  unfold enc3 cEl at lk
  generalize hcn : cntN ov t F = cc at *
  have HX : Hid (∀ w', Below w.heap.size w w' → CntOut S s.nd ov w db N (nS S t) cc (.returned (.agg #[.int .u64 cc.1, .int .u64 cc.2])) w') := fun w' hb' =>
    ⟨N, fd, rfl, below_grown hb' _, by have := Nat.one_le_two_pow (n := nS S t); omega, hE.done.kept (below_grown hb' none) (by simp), hD⟩
  have hX2 := hide (two_boxes w #[.int .u64 cc.1, .int .u64 cc.2] #[.int .u64 cc.1, .int .u64 cc.2] 61 61)
  clear hE hE1 hD d H hb hcn hf
  go_enter Tryz.func45, Tryz.ntmps45
  go_wp2_with fail
  generalize (w.alloc (.cells #[.int .u64 cc.1, .int .u64 cc.2] 61)).alloc (.cells #[.int .u64 cc.1, .int .u64 cc.2] 61) = w9 at *
  have q0 := cell_heap (j := 0) hX2.out.1 rfl
  have q1 := cell_heap (j := 1) hX2.out.1 rfl
  exact bodyPost_ret (v := .agg #[.int .u64 cc.1, .int .u64 cc.2]) (by simp [results, Tryz.results45, go_sem, q0, q1]) rfl (HX.out _ hX2.out.2.2)
theorem three_boxes (w : World) (a b c : Array Value) (ta tb tc : TypeId) : (((w.alloc (.cells a ta)).alloc (.cells b tb)).alloc (.cells c tc)).heap[w.heap.size]? = some (.cells a ta (0, 0)) ∧ (((w.alloc (.cells a ta)).alloc (.cells b tb)).alloc (.cells c tc)).heap[w.heap.size + 1]? = some (.cells b tb (0, 0)) ∧ (((w.alloc (.cells a ta)).alloc (.cells b tb)).alloc (.cells c tc)).heap[w.heap.size + 1 + 1]? = some (.cells c tc (0, 0)) ∧ Below w.heap.size w (((w.alloc (.cells a ta)).alloc (.cells b tb)).alloc (.cells c tc)) ∧ (((w.alloc (.cells a ta)).alloc (.cells b tb)).alloc (.cells c tc)).heap.size = w.heap.size + 3 := by
  obtain ⟨h1, h2, h3⟩ := two_boxes w a b ta tb
  refine ⟨heap_old h1, heap_old h2, ?_, h3.alloc (by simp; omega) _, by simp⟩
  have := heap_new ((w.alloc (.cells a ta)).alloc (.cells b tb)) (.cells c tc)
  rw [show ((w.alloc (.cells a ta)).alloc (.cells b tb)).heap.size = w.heap.size + 1 + 1 by simp] at this
  exact this
/-- two numbers of two words, added -/
theorem add_words {X Y : Nat} (h : X + Y < 340282366920938463463374607431768211456) : ∃ h1 : Nat, IntKind.u64.wrap (((ofN X).1 : Int) + ((ofN Y).1 : Int)) = (h1 : Int) ∧ IntKind.u64.wrap ((h1 : Int) + ((((ofN X).2 + (ofN Y).2) / 18446744073709551616 : Nat) : Int)) = ((ofN (X + Y)).1 : Int) ∧ ((ofN X).2 + (ofN Y).2) % 18446744073709551616 = (ofN (X + Y)).2 := by
  unfold ofN
  simp only
  refine ⟨X / 18446744073709551616 + Y / 18446744073709551616, ?_, ?_, ?_⟩
  · rw [IntKind.wrap_u64]; omega
  · rw [IntKind.wrap_u64]; omega
  · omega
theorem add_run {a b : Nat} (w : World) : (callFunc 47 #[.int .u64 a, .int .u64 b, .int .u64 0]).run Tryz.prog w = .ok (.value (.tuple #[.int .u64 ((a + b) % 18446744073709551616 : Nat), .int .u64 ((a + b) / 18446744073709551616 : Nat)])) w := by
  have h := run_callFunc_extern (P := Tryz.prog) (e := add64Entry) Tryz.func47 (by kernel_rfl) (by kernel_rfl) rfl rfl #[.int .u64 a, .int .u64 b, .int .u64 0] w
  rw [h, run_add64 _ _ _ (by omega) (by omega) (by omega) (by omega)]
  simp only [Result.andThen]
  congr 4
theorem gb_trans {a w w' : World} {row : Option Nat} (h : a.grownBy w row) (k : w.grownBy w' row) : a.grownBy w' row :=
  ⟨k.os.trans h.os, k.tape.trans h.tape, k.output.trans h.output, Nat.le_trans h.size k.size, fun i hi hr => (k.block i (Nat.lt_of_lt_of_le hi h.size) hr).trans (h.block i hi hr)⟩
/-- a fresh pair of words -/
def Zed (wr w : World) (z : Nat) : Prop := w.heap[z]? = some (.cells #[.int .u64 0, .int .u64 0] 61 (0, 0)) ∧ wr.heap.size ≤ z
theorem zed_new {wr : World} (w : World) (h : wr.heap.size ≤ w.heap.size) : Zed wr (w.alloc (.cells #[.int .u64 0, .int .u64 0] 61)) w.heap.size := ⟨heap_new _ _, h⟩
theorem bel_drew (w : World) (o : Obj) : Below w.drew.heap.size w.drew (w.alloc o).drew := by
  have h := (bel_one w o).drew
  exact ⟨h.os, h.tape, h.output, h.size, h.block⟩
theorem zed_new0 (wr : World) : Zed wr ((wr.alloc (.cells #[.int .u64 0, .int .u64 0] 61)).drew) wr.heap.size := ⟨heap_new _ _, Nat.le_refl _⟩
theorem Zed.grown {wr w w' : World} {z db : Nat} (h : Zed wr w z) (hg : w.grownBy w' (some db)) (hd : db < wr.heap.size) : Zed wr w' z := ⟨heap_grown h.1 hg (opt_ne (by have := h.2; omega)), h.2⟩
theorem Zed.below {wr w w' : World} {z : Nat} (h : Zed wr w z) (hb : Below w.heap.size w w') : Zed wr w' z := ⟨heapB hb h.1, h.2⟩
theorem pu0 {wr w w6 : World} (hb : Below w.heap.size w w6) : Below w.heap.size w w6 ∧ ∀ z, Zed wr w z → Zed wr w6 z := ⟨hb, fun _ h => h.below hb⟩
theorem pu1 {wr w w6 : World} {o : Obj} (hb : Below (w.alloc o).heap.size (w.alloc o) w6) : Below w.heap.size w w6 ∧ ∀ z, Zed wr (w.alloc o) z → Zed wr w6 z := ⟨below_wide (bel_one w o) hb, fun _ h => h.below hb⟩
theorem fin_set {wr w8 : World} {z : Nat} {u v : Value} (h : Zed wr w8 z) : ((w8.setCell ⟨z, 0, none⟩ u).setCell ⟨z, 1, none⟩ v).heap[z]? = some (.cells #[u, v] 61 (0, 0)) ∧ (wr.heap.size ≤ w8.heap.size → Below wr.heap.size w8 ((w8.setCell ⟨z, 0, none⟩ u).setCell ⟨z, 1, none⟩ v)) := by
  refine ⟨by rw [heap_set (heap_set h.1)]; rfl, fun hs => ?_⟩
  have hb : Below wr.heap.size w8 w8 := (Below.refl w8.heap.size w8).mono hs
  exact (hb.setCell (p := ⟨z, 0, none⟩) h.2 u).setCell (p := ⟨z, 1, none⟩) h.2 v
theorem fin_new {wr w8 : World} {u v : Value} : (w8.alloc (.cells #[u, v] 61)).heap[w8.heap.size]? = some (.cells #[u, v] 61 (0, 0)) ∧ (wr.heap.size ≤ w8.heap.size → Below wr.heap.size w8 (w8.alloc (.cells #[u, v] 61))) :=
  ⟨heap_new _ _, fun hs => (bel_one w8 _).mono hs⟩
theorem MCnt.block {P : Program} {w w' : World} {kt : TypeId} {b n : Nat} {α : Type} {en : α → Value} {f : α → Option Cn} (h : MCnt P w kt b n en f) (hb : w'.heap[b]? = w.heap[b]?) : MCnt P w' kt b n en f := by
  obtain ⟨D, h1, h2⟩ := h
  obtain ⟨es, cl, hh, F, hs', hD⟩ := h1
  exact ⟨D, ⟨es, cl, hb.trans hh, F, hs', hD⟩, h2⟩
/-- what a round of the loop over the two halves keeps -/
structure Cr (S : Nat → Bool) (k : Blk) (s : St) (w0 w wr : World) (A : Option Addr) (c : Nat) (ov : List Nat) (b1 b2 b3 b4 b5 db sb N E2 lo hi X i : Nat) (N' : Nat) (fd' : Int → Option Cn) : Prop where
  g : w.grownBy wr (some db)
  b : Below w0.heap.size w0 wr
  res : wr.heap[w.heap.size]? = some (.cells #[.int .u64 0, .int .u64 0] 61 (0, 0))
  acc : wr.heap[w.heap.size + 1 + 1]? = some (.cells #[.int .u64 (ofN X).1, .int .u64 (ofN X).2] 61 (0, 0))
  two : wr.heap[sb]? = some (.cells #[.int .i32 lo, .int .i32 hi] 21 (0, 0))
  E : Cs wr k.p b1 b2 b3 b4 b5 db N' (.slice A ov.length c) fd'
  D : DoneC S s.nd ov fd'
  n : N' + i ≤ N + i * E2
theorem gb_set {a w : World} {row : Option Nat} (h : a.grownBy w row) {b : Nat} (hb : a.heap.size ≤ b) (j : Nat) (u : Value) : a.grownBy (w.setCell ⟨b, j, none⟩ u) row :=
  ⟨h.os, h.tape, h.output, by simpa [World.setCell] using h.size, fun i hi hr => (Below.heap_setCell _ _ _ _ (show i ≠ b by omega)).trans (h.block i hi hr)⟩
theorem Cs.far {w : World} {p b1 b2 b3 b4 b5 db N b j : Nat} {sl u : Value} {cs : Array Value} {fd : Int → Option Cn} (h : Cs w p b1 b2 b3 b4 b5 db N sl fd) (hb : w.heap[b]? = some (.cells cs 61 (0, 0))) : Cs (w.setCell ⟨b, j, none⟩ u) p b1 b2 b3 b4 b5 db N sl fd := by
  obtain ⟨_, _, hs⟩ := h.done.heap
  exact ⟨heap_far h.c1 (heap_ne h.c1 hb (by decide)), heap_far h.c2 (heap_ne h.c2 hb (by decide)), heap_far h.c3 (heap_ne h.c3 hb (by decide)), heap_far h.c4 (heap_ne h.c4 hb (by decide)), heap_far h.c5 (heap_ne h.c5 hb (by decide)), h.done.setCell (Ne.symm (ne_kind hb hs)) _⟩
theorem cr_next {S : Nat → Bool} {k : Blk} {s : St} {w0 w wr w9 : World} {A : Option Addr} {c : Nat} {ov : List Nat} {b1 b2 b3 b4 b5 db sb N E2 lo hi X i N' N2 X' : Nat} {fd' fd2 : Int → Option Cn} (C : Cr S k s w0 w wr A c ov b1 b2 b3 b4 b5 db sb N E2 lo hi X i N' fd') (G : wr.grownBy w9 (some db)) (E9 : Cs w9 k.p b1 b2 b3 b4 b5 db N2 (.slice A ov.length c) fd2) (D2 : DoneC S s.nd ov fd2) (hn : N2 + (i + 1) ≤ N + (i + 1) * E2) (hl : w0.heap.size ≤ db) (hw : w0.heap.size ≤ w.heap.size) :
    Cr S k s w0 w ((w9.setCell ⟨w.heap.size + 1 + 1, 0, none⟩ (.int .u64 (ofN X').1)).setCell ⟨w.heap.size + 1 + 1, 1, none⟩ (.int .u64 (ofN X').2)) A c ov b1 b2 b3 b4 b5 db sb N E2 lo hi X' (i + 1) N2 fd2 := by
  have acc9 := heap_grown C.acc G (C.E.ne C.acc)
  have acc10 := heap_set (j := 0) (u := .int .u64 ((ofN X').1 : Int)) acc9
  have sz := C.g.size
  refine ⟨gb_set (gb_set (gb_trans C.g G) (by omega) _ _) (by omega) _ _, ?_, heap_far (heap_far (heap_grown C.res G (C.E.ne C.res)) (by simp; omega)) (by simp; omega), ?_, ?_, (E9.far acc9).far acc10, D2, hn⟩
  · exact ((C.b.grown G C.b.size (fun b e => by injection e with e; omega)).setCell (p := ⟨w.heap.size + 1 + 1, 0, none⟩) (by simp; omega) _).setCell (p := ⟨w.heap.size + 1 + 1, 1, none⟩) (by simp; omega) _
  · rw [heap_set acc10]; rfl
  · have t9 := heap_grown C.two G (C.E.ne C.two)
    have hne := heap_ne t9 acc9 (by decide)
    exact heap_far (heap_far t9 hne) hne
theorem fin_all {wr w5 w8 w9 : World} {db : Nat} (hg : wr.drew.grownBy w5 (some db)) (hb : Below w5.heap.size w5 w8) (hF : wr.heap.size ≤ w8.heap.size → Below wr.heap.size w8 w9) (hd : db < wr.heap.size) : wr.grownBy w9 (some db) ∧ w9.heap[db]? = w5.heap[db]? := by
  have h5 : wr.heap.size ≤ w5.heap.size := hg.size
  have h8 := hb.size
  have hF' := hF (by omega)
  refine ⟨⟨hF'.os.trans (hb.os.trans hg.os), hF'.tape.trans (hb.tape.trans hg.tape), hF'.output.trans (hb.output.trans hg.output), by have := hF'.size; omega, fun i hi hr => ?_⟩, ?_⟩
  · exact (hF'.block i hi).trans ((hb.block i (by omega)).trans (hg.block i hi hr))
  · exact (hF'.block db hd).trans (hb.block db (by omega))
end Go.Proofs.YtgfjdkkfgclhjaaGreat.Bd
/- Count: the walk, a node that was not met yet. -/
namespace Go.Proofs.YtgfjdkkfgclhjaaGreat.Bd
open Go.RowKit Go.Proofs.YtgfjdkkfgclhjaaGreat Go.Proofs.YtgfjdkkfgclhjaaGreat.Lx Go.Maps

/-- one half: its number and what it is -/
structure Half (S : Nat → Bool) (nd : List Nd) (ov : List Nat) (t E2 n g tg δ : Nat) (G : Env → Bool) : Prop where
  d : Den S nd g tg G
  lt : g < n
  h : t < tg
  e : nS S tg ≤ E2
  p : plc ov tg = plc ov t + 1 + δ
  q : δ < 128
theorem half_val {ov : List Nat} {tg : Nat} {G : Env → Bool} {δ : Nat} (h : cntL G (fromL ov tg) z0 * 2 ^ δ < 340282366920938463463374607431768211456) : ok2 (cntN ov tg G) ∧ val (cntN ov tg G) * 2 ^ δ < 340282366920938463463374607431768211456 ∧ ofN (val (cntN ov tg G) * 2 ^ δ) = ofN (cntL G (fromL ov tg) z0 * 2 ^ δ) := by
  have h1 : cntL G (fromL ov tg) z0 < 340282366920938463463374607431768211456 := Nat.lt_of_le_of_lt (Nat.le_mul_of_pos_right _ (Nat.two_pow_pos δ)) h
  unfold cntN
  rw [ofN_val]
  exact ⟨ofN_ok h1, h, rfl⟩
theorem ne_old {w : World} {g z : Nat} {o : Obj} (h : w.heap[g]? = some o) (hz : w.heap.size ≤ z) : g ≠ z := by
  have := lt_heap h
  omega
theorem ne_of_lt_le {a b c : Nat} (h : a < b) (h2 : b ≤ c) : a ≠ c := by omega
theorem wrap_small {x : Int} (h : -1000 ≤ x) (h2 : x ≤ 1000) : IntKind.i64.wrap x = x := IntWalk.i64_in _ (by omega)

def accX (X1 X2 i : Nat) : Nat := if i = 0 then 0 else if i = 1 then X1 else X1 + X2
theorem round_data {S : Nat → Bool} {k : Blk} {s : St} {w0 w wr : World} {A : Option Addr} {c : Nat} {ov : List Nat} {b1 b2 b3 b4 b5 db sb N m lo hi X1 X2 i n t tl th δ1 δ2 N' : Nat} {Fl Fh : Env → Bool} {fd' : Int → Option Cn} (h1 : Half S s.nd ov t m n lo tl δ1 Fl) (h2 : Half S s.nd ov t m n hi th δ2 Fh)
    (q1 : ok2 (cntN ov tl Fl) ∧ val (cntN ov tl Fl) * 2 ^ δ1 < 340282366920938463463374607431768211456 ∧ ofN (val (cntN ov tl Fl) * 2 ^ δ1) = ofN X1) (q2 : ok2 (cntN ov th Fh) ∧ val (cntN ov th Fh) * 2 ^ δ2 < 340282366920938463463374607431768211456 ∧ ofN (val (cntN ov th Fh) * 2 ^ δ2) = ofN X2) (hi2 : i < 2) (C : Cr S k s w0 w wr A c ov b1 b2 b3 b4 b5 db sb N (2 ^ m) lo hi (accX X1 X2 i) i N' fd') (hN : N + 2 * 2 ^ m ≤ 2000000000) :
    ∃ (g tg δ Y : Nat) (G : Env → Bool), Half S s.nd ov t m n g tg δ G ∧ (ok2 (cntN ov tg G) ∧ val (cntN ov tg G) * 2 ^ δ < 340282366920938463463374607431768211456 ∧ ofN (val (cntN ov tg G) * 2 ^ δ) = ofN Y) ∧ accX X1 X2 (i + 1) = accX X1 X2 i + Y ∧ wr.cell? ⟨sb, i, none⟩ = some (.int .i32 g) ∧ N' + 2 ^ nS S tg ≤ 2000000000 ∧ ∀ N'', N'' + 1 ≤ N' + 2 ^ nS S tg → N'' + (i + 1) ≤ N + (i + 1) * 2 ^ m := by
  have hn := C.n
  rcases (by omega : i = 0 ∨ i = 1) with rfl | rfl
  · have hp : 2 ^ nS S tl ≤ 2 ^ m := Nat.pow_le_pow_right (by omega) h1.e
    exact ⟨lo, tl, δ1, X1, Fl, h1, q1, by simp [accX], cell_heap C.two rfl, by omega, fun N'' h => by omega⟩
  · have hp : 2 ^ nS S th ≤ 2 ^ m := Nat.pow_le_pow_right (by omega) h2.e
    exact ⟨hi, th, δ2, X2, Fh, h2, q2, by simp [accX], cell_heap C.two rfl, by omega, fun N'' h => by omega⟩
set_option maxHeartbeats 8000000 in
set_option maxRecDepth 100000 in
theorem count_step (S : Nat → Bool) (k : Blk) (s : St) (w0 : World) (A : Option Addr) (c : Nat) (ov : List Nat) (b1 b2 b3 b4 b5 db n : Nat) (H : CntHyp S k s w0 A c ov) (hlow : w0.heap.size ≤ db) (IH : CntAt S k s w0 A c ov b1 b2 b3 b4 b5 db n) : CntAt S k s w0 A c ov b1 b2 b3 b4 b5 db (n + 1) := by
  intro f t F w N fd hfn d hB hE hD hN
  cases hf : fd f with
  | some cc => exact count_done S k s w0 A c ov b1 b2 b3 b4 b5 db H f t F w N fd d hE hD cc hf
  | none =>
  have hW := H.hA.wf
  have hnm := H.hA.nm
  have hfl := d.lt hW
  have hm := H.hm
  have h2 : 2 ≤ f := by
    rcases (by omega : f = 0 ∨ f = 1 ∨ 2 ≤ f) with rfl | rfl | h
    · have := hD.d0; rw [show ((0 : Nat) : Int) = 0 from rfl] at hf; rw [hf] at this; cases this
    · have := hD.d1; rw [show ((1 : Nat) : Int) = 1 from rfl] at hf; rw [hf] at this; cases this
    · exact h
  obtain ⟨lo, hi, tl, th, Fl, Fh, hr, r1, r2, r3, r4, r5, r6, r7, dl, dh, rfl⟩ := d.row h2
  have hto := H.hin t r7
  have hA := H.hA.below hB
  -- the room
  obtain ⟨m, hmS⟩ : ∃ m, m = nS S (t + 1) := ⟨_, rfl⟩
  have hst := nS_step S r6
  rw [r7, if_pos rfl, ← hmS, Nat.add_comm] at hst
  have ml := nS_le S (show t + 1 ≤ tl by omega)
  have mh := nS_le S (show t + 1 ≤ th by omega)
  rw [← hmS] at ml mh
  rw [hst] at hN ⊢
  have hE2 : 2 ^ (m + 1) = 2 * 2 ^ m := by rw [Nat.pow_succ]; omega
  have hE3 := Nat.one_le_two_pow (n := m)
  -- the halves' numbers
  have pl1 := plc_mono ov (show t + 1 ≤ tl by omega)
  have pl2 := plc_mono ov (show t + 1 ≤ th by omega)
  rw [plc_at H.hov hto] at pl1 pl2
  have ple1 := plc_le ov tl
  have ple2 := plc_le ov th
  have hn127 := H.hn
  have Hlo : Half S s.nd ov t m n lo tl (plc ov tl - plc ov t - 1) Fl := ⟨dl, by omega, r4, ml, by omega, by omega⟩
  have Hhi : Half S s.nd ov t m n hi th (plc ov th - plc ov t - 1) Fh := ⟨dh, by omega, r5, mh, by omega, by omega⟩
  have hcn := cnt_node H.hov hto r4 r5 (fun v hv ρ b => dl.free hv ρ b) (fun v hv ρ b => dh.free hv ρ b) z0
  have hclt := (cnt_lt (ov := ov) (fun ρ => if ρ t then Fh ρ else Fl ρ) t z0 H.hn).1
  have hc1 : cntL (fun ρ => if ρ t then Fh ρ else Fl ρ) (fromL ov t) z0 < 340282366920938463463374607431768211456 := Nat.lt_of_le_of_lt (Nat.le_mul_of_pos_right _ (Nat.two_pow_pos _)) hclt
  rw [hcn] at hc1
  generalize hδ1 : plc ov tl - plc ov t - 1 = δ1 at *
  generalize hδ2 : plc ov th - plc ov t - 1 = δ2 at *
  generalize hX1 : cntL Fl (fromL ov tl) z0 * 2 ^ δ1 = X1 at *
  generalize hX2 : cntL Fh (fromL ov th) z0 * 2 ^ δ2 = X2 at *
  have hcN : cntN ov t (fun ρ => if ρ t then Fh ρ else Fl ρ) = ofN (X1 + X2) := by unfold cntN; rw [hcn]
  have hall : ∀ t' F', Den S s.nd f t' F' → ofN (X1 + X2) = cntN ov t' F' := by
    intro t' F' d'
    obtain ⟨rfl, rfl⟩ := d.det d'
    exact hcN.symm
  rw [hcN]
  have HQ1 := hide (half_val (show cntL Fl (fromL ov tl) z0 * 2 ^ δ1 < _ from by rw [hX1]; omega))
  have HQ2 := hide (half_val (show cntL Fh (fromL ov th) z0 * 2 ^ δ2 < _ from by rw [hX2]; omega))
  rw [hX1] at HQ1
  rw [hX2] at HQ2
  -- memory
  obtain ⟨x0, x1, x2, hb3, hs3⟩ := three_boxes w #[.int .u64 0, .int .u64 0] #[.int .u64 0, .int .u64 0] #[.int .u64 0, .int .u64 0] 61 61 61
  have hb1 := bel_one w (.cells #[.int .u64 0, .int .u64 0] 61)
  have hE1 := hE.below hb1
  have k1 := cell_heap (j := 0) hE1.c1 rfl
  have lk := hE1.done.look keyed3 Tryz.underlying91 (zeroC _) (key3 f (by omega) (by omega))
  rw [hf] at lk
  simp only [Option.getD_none, Option.isSome_none] at lk
  unfold enc3 cEl at lk
  have lk2 : (Instr.lookup 91 (.map (some db)) (.int .i32 f) true).run Tryz.prog (w.alloc (.cells #[.int .u64 0, .int .u64 0] 61)) = .ok (.tuple #[.agg #[.int .u64 0, .int .u64 0], .bool false]) (w.alloc (.cells #[.int .u64 0, .int .u64 0] 61)) := lk
  clear lk
  have HB3 := hide (And.intro x0 (And.intro x2 (And.intro hb3 hs3)))
  have HE := hide hE
  have HD := hide hD
  have HB := hide hB
  have HH := hide H
  have HIH := hide IH
  have HLO := hide Hlo
  have HHI := hide Hhi
  have HALL := hide hall
  have HRW := hide hr
  have HA0 := hide (And.intro hto d)
  have hcl : 0 < 2 := by omega
  clear hE hD hB H IH Hlo Hhi hall hr d dl dh hA hE1 hb1 hb3 x0 x1 x2 hs3 hcn hclt hδ1 hδ2 hX1 hX2 hcN hf hmS hst
  go_enter Tryz.func45, Tryz.ntmps45
  go_wp2_with fail
  generalize ((w.alloc (.cells #[.int .u64 0, .int .u64 0] 61)).alloc (.cells #[.int .u64 0, .int .u64 0] 61)).alloc (.cells #[.int .u64 0, .int .u64 0] 61) = w3 at *
  have HC3 := hide (HE.out.below HB3.out.2.2.1)
  have HB30 := hide (HB.out.trans (HB3.out.2.2.1.mono HB.out.size))
  have q1 : (f : Int) < s.nd.length := by omega
  have HS : Hid (∀ w', Below w3.heap.size w3 w' → w'.cell? ⟨b2, 0, none⟩ = some (.pointer (some ⟨k.p, 0, none⟩)) ∧ w'.cell? ⟨k.p, 2, none⟩ = some (.slice (some ⟨k.g, 0, none⟩) s.nd.length k.c) ∧ w'.cell? ⟨k.g, f * 3 + 1, none⟩ = some (.int .i32 lo) ∧ w'.cell? ⟨k.g, f * 3 + 2, none⟩ = some (.int .i32 hi)) := by
    intro w' hb
    obtain ⟨_, _, Hp, _⟩ := HH.out.hA.below (HB30.out.trans (hb.mono HB30.out.size))
    exact ⟨cell_heap (heapB hb HC3.out.c2) rfl, Hp.c2, (Hp.node HRW.out).2.1, (Hp.node HRW.out).2.2⟩
  clear k1 lk2
  go_region_held3 (fun w' => w'.cell? ⟨b2, 0, none⟩ = some (.pointer (some ⟨k.p, 0, none⟩)) ∧ w'.cell? ⟨k.p, 2, none⟩ = some (.slice (some ⟨k.g, 0, none⟩) s.nd.length k.c) ∧ w'.cell? ⟨k.g, f * 3 + 1, none⟩ = some (.int .i32 lo) ∧ w'.cell? ⟨k.g, f * 3 + 2, none⟩ = some (.int .i32 hi))
    (first | exact HS.out _ (Below.drew (Below.refl _ w3)) | exact HS.out _ (Below.alloc (Below.drew (Below.refl _ w3)) (Nat.le_refl _) _) | exact HS.out _ (Below.drew (Below.alloc (Below.refl _ w3) (Nat.le_refl _) _)) | exact HS.out _ (Below.setCell (Below.alloc (Below.drew (Below.refl _ w3)) (Nat.le_refl _) _) (Nat.le_refl _) _) | exact HS.out _ (Below.setCell (Below.drew (Below.alloc (Below.refl _ w3) (Nat.le_refl _) _)) (Nat.le_refl _) _))
    (fail)
  all_goals (
    go_wp2_with fail
    have hcs := hide (show Cr S k s w0 w (w3.alloc (.cells #[.int .i32 lo, .int .i32 hi] 21)).drew A c ov b1 b2 b3 b4 b5 db w3.heap.size N (2 ^ m) lo hi 0 0 N fd from by
      have hb := (bel_one w3 (.cells #[.int .i32 lo, .int .i32 hi] 21)).drew
      have hb2 := below_wide HB3.out.2.2.1 hb
      exact ⟨below_grown hb2 _, HB.out.trans (hb2.mono HB.out.size), heapB hb HB3.out.1, heapB hb HB3.out.2.1, heap_new _ _, HE.out.below hb2, HD.out, by omega⟩)
    generalize (w3.alloc (.cells #[.int .i32 lo, .int .i32 hi] 21)).drew = w4 at *
    go_loopw [11, 12, 13, 14, 41] (fun _ _ _ _ j wr => ∃ (i N' : Nat) (fd' : Int → Option Cn), j = .int .i64 i ∧ i ≤ 2 ∧ Cr S k s w0 w wr A c ov b1 b2 b3 b4 b5 db w3.heap.size N (2 ^ m) lo hi (accX X1 X2 i) i N' fd') (fun _ _ _ _ j _ => 2 - (intOf j).toNat)
    case atStart => exact ⟨0, N, fd, rfl, by omega, hcs.out⟩
    case round =>
      obtain ⟨i, N', fd', rfl, hi2, hC⟩ := hrel
      rcases Nat.lt_or_ge i 2 with hlt | hge
      · have d1 : decide ((i : Int) < 2) = true := by simp; omega
        have d2 : ((i : Int) < 2) := by omega
        obtain ⟨g, tg, δ, Y, G, hH, hQ, hacc, hcell, hNN, hNx⟩ := round_data HLO.out HHI.out HQ1.out HQ2.out hlt hC (show N + 2 * 2 ^ m ≤ 2000000000 by omega)
        have HC := hide hC
        have HQ := hide hQ
        have HHA := hide hH
        have HNX := hide hNx
        have HAC := hide hacc
        have hB4 := hC.b.drew
        have hE4 := hC.E.below ((Below.refl wr.heap.size wr).drew)
        have hdbl : db < wr.heap.size := hC.E.done.lt
        have HWK := hide (fun (w' : World) (hb : Below wr.drew.heap.size wr.drew w') => HIH.out g tg G w' N' fd' hH.lt hH.d (hB4.trans (hb.mono hB4.size)) (hE4.below hb) hC.D hNN)
        have hk4 : wr.drew.cell? ⟨b3, 0, none⟩ = some (.func (.func 45) #[] #[.pointer (some ⟨b1, 0, none⟩), .pointer (some ⟨b2, 0, none⟩), .pointer (some ⟨b3, 0, none⟩), .pointer (some ⟨b4, 0, none⟩)]) ∧ wr.drew.cell? ⟨b4, 0, none⟩ = some (.func (.func 43) #[] #[.pointer (some ⟨b5, 0, none⟩), .pointer (some ⟨b2, 0, none⟩)]) := ⟨cell_heap hE4.c3 rfl, cell_heap hE4.c4 rfl⟩
        have HPL : Hid (∀ (x tx : Nat) (GG : Env → Bool) (w' : World), Den S s.nd x tx GG → Below w0.heap.size w0 w' → w'.cell? ⟨b5, 0, none⟩ = some (.slice A ov.length c) → w'.cell? ⟨b2, 0, none⟩ = some (.pointer (some ⟨k.p, 0, none⟩)) → Calls Tryz.prog 43 #[.int .i32 x, .pointer (some ⟨b5, 0, none⟩), .pointer (some ⟨b2, 0, none⟩)] w' fun e w'' => e = .returned (.int .i64 (plc ov tx)) ∧ Below w'.heap.size w' w'') := fun x tx GG w' dx hb h5 h3 => place_any S k s x tx GG A c ov b5 b2 w' (HH.out.hA.below hb) dx HH.out.hov HH.out.hall (fun h2 => HH.out.hin _ (dx.first (by
          obtain ⟨_, _, _, _, _, _, _, _, _, _, _, _, h, _⟩ := dx.row h2
          exact h))) (Src.below HH.out.hS hb) HH.out.hn h5 h3 HH.out.hm
        have hpg := hH.p
        have hδ := hH.q
        have hplt := plc_le ov t
        have hplg := plc_le ov tg
        generalize hpt : plc ov t = pt at *
        generalize hpgv : plc ov tg = pg at *
        have HPT := hide hpt
        have HPG := hide hpgv
        obtain ⟨δ', hδ'⟩ : ∃ δ' : Nat, δ' = δ + 1 := ⟨_, rfl⟩
        have hw1 : IntKind.i64.wrap ((pg : Int) - pt) = (δ' : Int) := by rw [wrap_small (by omega) (by omega)]; omega
        have hw2 : IntKind.i64.wrap ((δ' : Int) - 1) = (δ : Int) := by rw [wrap_small (by omega) (by omega)]; omega
        have HTM := hide (fun w' => times_any (cntN ov tg G) δ w' hQ.1 hQ.2.1 hδ)
        rw [hQ.2.2] at HTM
        unfold cEl at HTM
        have HK4 := hide (fun (w' : World) (hb : Below wr.drew.heap.size wr.drew w') => And.intro (cell_heap (j := 0) (hE4.below hb).c3 rfl) (cell_heap (j := 0) (hE4.below hb).c4 rfl))
        have HPLg := hide (fun w' hb h5 h3 => HPL.out g tg G w' HHA.out.d hb h5 h3)
        have HPLf := hide (fun w' hb h5 h3 => HPL.out f t _ w' HA0.out.2 hb h5 h3)
        rw [HPG.out] at HPLg
        rw [HPT.out] at HPLf
        have HB4 := hide hB4
        have HE4 := hide hE4
        clear hC hB4 hE4 hQ hNx hacc hpt hpgv hδ' hH HPL hpg
        go_wp2_with fail
        go_region_held3 (fun w' => w'.cell? ⟨b3, 0, none⟩ = some (.func (.func 45) #[] #[.pointer (some ⟨b1, 0, none⟩), .pointer (some ⟨b2, 0, none⟩), .pointer (some ⟨b3, 0, none⟩), .pointer (some ⟨b4, 0, none⟩)]) ∧ w'.cell? ⟨b4, 0, none⟩ = some (.func (.func 43) #[] #[.pointer (some ⟨b5, 0, none⟩), .pointer (some ⟨b2, 0, none⟩)]))
          (first | exact hk4 | exact HK4.out _ (bel_one _ _) | exact HK5.out _ (Below.refl _ _) | exact HK5.out _ (bel_one _ _) | exact HK6.out _ (Below.refl _ _) | exact HK6.out _ (bel_one _ _) | exact HK7.out _ (Below.refl _ _) | exact HK7.out _ (bel_one _ _) | exact HK8.out _ (Below.refl _ _) | exact HK8.out _ (bel_one _ _) | exact HK9.out _ | exact HK10.out _ _)
          (first
            | (go_at_call 45; first | ((with_reducible refine (HWK.out _ (Below.refl _ _)).mono ?_); intro e w5 hh; unfold CntOut at hh; obtain ⟨N2, fd2, he, hg2, hn2, hm2, hD2⟩ := hh; unfold cEl at he; subst he; have hgz := hg2; have hgw := hg2; have HZT5 := hide (fun (z : Nat) (h : Zed wr _ z) => h.grown hgz hdbl); have HE5 := hide (HE4.out.kept hgw hm2); have HB5 := hide (HB4.out.grown hgw HB4.out.size (fun b e => by injection e with e; omega)); have HK5 := hide (fun (w' : World) (hb : Below w5.heap.size w5 w') => And.intro (cell_heap (j := 0) (HE5.out.below hb).c3 rfl) (cell_heap (j := 0) (HE5.out.below hb).c4 rfl)); have HPg5 := hide (fun (w' : World) (hb : Below w5.heap.size w5 w') => HPLg.out w' (HB5.out.trans (hb.mono HB5.out.size)) (cell_heap (HE5.out.below hb).c5 rfl) (cell_heap (HE5.out.below hb).c2 rfl)); have HG2 := hide hgw; have HN2 := hide hn2; have HD2 := hide hD2; have HM2 := hide hm2; have hs5 := hgw.size; clear hg2 hgz hgw hn2 hm2 hD2) | ((with_reducible refine (HWK.out _ (bel_drew _ _)).mono ?_); intro e w5 hh; unfold CntOut at hh; obtain ⟨N2, fd2, he, hg2, hn2, hm2, hD2⟩ := hh; unfold cEl at he; subst he; have hgz := hg2; have hgw := gb_trans (below_grown (bel_drew wr _) _) hg2; have HZT5 := hide (fun (z : Nat) (h : Zed wr _ z) => h.grown hgz hdbl); have HE5 := hide (HE4.out.kept hgw hm2); have HB5 := hide (HB4.out.grown hgw HB4.out.size (fun b e => by injection e with e; omega)); have HK5 := hide (fun (w' : World) (hb : Below w5.heap.size w5 w') => And.intro (cell_heap (j := 0) (HE5.out.below hb).c3 rfl) (cell_heap (j := 0) (HE5.out.below hb).c4 rfl)); have HPg5 := hide (fun (w' : World) (hb : Below w5.heap.size w5 w') => HPLg.out w' (HB5.out.trans (hb.mono HB5.out.size)) (cell_heap (HE5.out.below hb).c5 rfl) (cell_heap (HE5.out.below hb).c2 rfl)); have HG2 := hide hgw; have HN2 := hide hn2; have HD2 := hide hD2; have HM2 := hide hm2; have hs5 := hgw.size; clear hg2 hgz hgw hn2 hm2 hD2))
            | (go_at_call 43; (first | (with_reducible refine (HPg5.out _ (Below.refl _ _)).mono ?_) | (with_reducible refine (HPg5.out _ (bel_one _ _)).mono ?_)); rintro e w6 ⟨rfl, hb6⟩; (first | have hq6 := pu0 (wr := wr) (w := w5) hb6 | have hq6 := pu1 (wr := wr) (w := w5) hb6); have hb56 := hq6.1; have HB6 := hide hb56; have HZT6 := hide hq6.2; have HE6 := hide (HE5.out.below hq6.1); have HK6 := hide (fun (w' : World) (hb : Below w6.heap.size w6 w') => And.intro (cell_heap (j := 0) (HE6.out.below hb).c3 rfl) (cell_heap (j := 0) (HE6.out.below hb).c4 rfl)); have HPf6 := hide (fun (w' : World) (hb : Below w6.heap.size w6 w') => HPLf.out w' (HB5.out.trans ((below_wide HB6.out hb).mono HB5.out.size)) (cell_heap (HE6.out.below hb).c5 rfl) (cell_heap (HE6.out.below hb).c2 rfl)); have hs6 := hq6.1.size; clear hb6 hq6 hb56)
            | (go_at_call 43; (first | (with_reducible refine (HPf6.out _ (Below.refl _ _)).mono ?_) | (with_reducible refine (HPf6.out _ (bel_one _ _)).mono ?_)); rintro e w7 ⟨rfl, hb7⟩; (first | have hq7 := pu0 (wr := wr) (w := w6) hb7 | have hq7 := pu1 (wr := wr) (w := w6) hb7); have hb57 := below_wide HB6.out hq7.1; have HB7 := hide hb57; have HZT7 := hide hq7.2; have HE7 := hide (HE6.out.below hq7.1); have HK7 := hide (fun (w' : World) (hb : Below w7.heap.size w7 w') => And.intro (cell_heap (j := 0) (HE7.out.below hb).c3 rfl) (cell_heap (j := 0) (HE7.out.below hb).c4 rfl)); have hs7 := hq7.1.size; clear hb7 hq7 hb57)
            | (go_at_call 46; (with_reducible refine (HTM.out _).mono ?_); rintro e w8 ⟨rfl, hb8⟩; (first | have hq8 := pu0 (wr := wr) (w := w7) hb8 | have hq8 := pu1 (wr := wr) (w := w7) hb8); have hb58 := below_wide HB7.out hq8.1; have HB8 := hide hb58; have HZT8 := hide hq8.2; have HE8 := hide (HE7.out.below hq8.1); have HK8 := hide (fun (w' : World) (hb : Below w8.heap.size w8 w') => And.intro (cell_heap (j := 0) (HE8.out.below hb).c3 rfl) (cell_heap (j := 0) (HE8.out.below hb).c4 rfl)); have hs8 := hq8.1.size; clear hb8 hq8 hb58; (first | (have hz8 := HZT8.out _ (HZT7.out _ (HZT6.out _ (HZT5.out _ (zed_new0 wr)))); have HZ8 := hide hz8; have kz0 := cell_heap (j := 0) hz8.1 rfl; have kz1 := fun (u : Value) => cell_heap (j := 1) (heap_set (j := 0) (u := u) hz8.1) rfl; have fz0 := frozen_heap (j := 0) hz8.1; have fz1 := fun (u : Value) => frozen_heap (j := 1) (heap_set (j := 0) (u := u) hz8.1); have l3 := ne_old HC.out.E.c3 hz8.2; have l4 := ne_old HC.out.E.c4 hz8.2; have HK9 := hide (fun (u : Value) => And.intro (cell_heap (j := 0) (heap_far (p := ⟨_, 0, none⟩) (u := u) HE8.out.c3 l3) rfl) (cell_heap (j := 0) (heap_far (p := ⟨_, 0, none⟩) (u := u) HE8.out.c4 l4) rfl)); have HK10 := hide (fun (u v : Value) => And.intro (cell_heap (j := 0) (heap_far (p := ⟨_, 1, none⟩) (u := v) (heap_far (p := ⟨_, 0, none⟩) (u := u) HE8.out.c3 l3) l3) rfl) (cell_heap (j := 0) (heap_far (p := ⟨_, 1, none⟩) (u := v) (heap_far (p := ⟨_, 0, none⟩) (u := u) HE8.out.c4 l4) l4) rfl)); clear hz8) | (have hz8 := HZT8.out _ (HZT7.out _ (HZT6.out _ (zed_new w5 (by simpa using hs5)))); have HZ8 := hide hz8; have kz0 := cell_heap (j := 0) hz8.1 rfl; have kz1 := fun (u : Value) => cell_heap (j := 1) (heap_set (j := 0) (u := u) hz8.1) rfl; have fz0 := frozen_heap (j := 0) hz8.1; have fz1 := fun (u : Value) => frozen_heap (j := 1) (heap_set (j := 0) (u := u) hz8.1); have l3 := ne_old HC.out.E.c3 hz8.2; have l4 := ne_old HC.out.E.c4 hz8.2; have HK9 := hide (fun (u : Value) => And.intro (cell_heap (j := 0) (heap_far (p := ⟨_, 0, none⟩) (u := u) HE8.out.c3 l3) rfl) (cell_heap (j := 0) (heap_far (p := ⟨_, 0, none⟩) (u := u) HE8.out.c4 l4) rfl)); have HK10 := hide (fun (u v : Value) => And.intro (cell_heap (j := 0) (heap_far (p := ⟨_, 1, none⟩) (u := v) (heap_far (p := ⟨_, 0, none⟩) (u := u) HE8.out.c3 l3) l3) rfl) (cell_heap (j := 0) (heap_far (p := ⟨_, 1, none⟩) (u := v) (heap_far (p := ⟨_, 0, none⟩) (u := u) HE8.out.c4 l4) l4) rfl)); clear hz8) | (have hz8 := HZT8.out _ (HZT7.out _ (zed_new w6 (by have := hs5; have := hs6; simp only [World.drew] at *; omega))); have HZ8 := hide hz8; have kz0 := cell_heap (j := 0) hz8.1 rfl; have kz1 := fun (u : Value) => cell_heap (j := 1) (heap_set (j := 0) (u := u) hz8.1) rfl; have fz0 := frozen_heap (j := 0) hz8.1; have fz1 := fun (u : Value) => frozen_heap (j := 1) (heap_set (j := 0) (u := u) hz8.1); have l3 := ne_old HC.out.E.c3 hz8.2; have l4 := ne_old HC.out.E.c4 hz8.2; have HK9 := hide (fun (u : Value) => And.intro (cell_heap (j := 0) (heap_far (p := ⟨_, 0, none⟩) (u := u) HE8.out.c3 l3) rfl) (cell_heap (j := 0) (heap_far (p := ⟨_, 0, none⟩) (u := u) HE8.out.c4 l4) rfl)); have HK10 := hide (fun (u v : Value) => And.intro (cell_heap (j := 0) (heap_far (p := ⟨_, 1, none⟩) (u := v) (heap_far (p := ⟨_, 0, none⟩) (u := u) HE8.out.c3 l3) l3) rfl) (cell_heap (j := 0) (heap_far (p := ⟨_, 1, none⟩) (u := v) (heap_far (p := ⟨_, 0, none⟩) (u := u) HE8.out.c4 l4) l4) rfl)); clear hz8) | (have hz8 := HZT8.out _ (zed_new w7 (by have := hs5; have := hs6; have := hs7; simp only [World.drew] at *; omega)); have HZ8 := hide hz8; have kz0 := cell_heap (j := 0) hz8.1 rfl; have kz1 := fun (u : Value) => cell_heap (j := 1) (heap_set (j := 0) (u := u) hz8.1) rfl; have fz0 := frozen_heap (j := 0) hz8.1; have fz1 := fun (u : Value) => frozen_heap (j := 1) (heap_set (j := 0) (u := u) hz8.1); have l3 := ne_old HC.out.E.c3 hz8.2; have l4 := ne_old HC.out.E.c4 hz8.2; have HK9 := hide (fun (u : Value) => And.intro (cell_heap (j := 0) (heap_far (p := ⟨_, 0, none⟩) (u := u) HE8.out.c3 l3) rfl) (cell_heap (j := 0) (heap_far (p := ⟨_, 0, none⟩) (u := u) HE8.out.c4 l4) rfl)); have HK10 := hide (fun (u v : Value) => And.intro (cell_heap (j := 0) (heap_far (p := ⟨_, 1, none⟩) (u := v) (heap_far (p := ⟨_, 0, none⟩) (u := u) HE8.out.c3 l3) l3) rfl) (cell_heap (j := 0) (heap_far (p := ⟨_, 1, none⟩) (u := v) (heap_far (p := ⟨_, 0, none⟩) (u := u) HE8.out.c4 l4) l4) rfl)); clear hz8) | skip)))
        all_goals (
          first
            | (have hfin := fin_set (z := wr.heap.size) (u := .int .u64 ((ofN Y).1 : Int)) (v := .int .u64 ((ofN Y).2 : Int)) HZ8.out; obtain ⟨y12, hF⟩ := hfin; have z0n := ne_of_lt_le (lt_heap HC.out.acc) HZ8.out.2; clear kz0 kz1 fz0 fz1; generalize (w8.setCell ⟨wr.heap.size, 0, none⟩ (.int .u64 ((ofN Y).1 : Int))).setCell ⟨wr.heap.size, 1, none⟩ (.int .u64 ((ofN Y).2 : Int)) = w9 at y12 hF ⊢)
            | (have hfin := fin_set (z := w5.heap.size) (u := .int .u64 ((ofN Y).1 : Int)) (v := .int .u64 ((ofN Y).2 : Int)) HZ8.out; obtain ⟨y12, hF⟩ := hfin; have z0n := ne_of_lt_le (lt_heap HC.out.acc) HZ8.out.2; clear kz0 kz1 fz0 fz1; generalize (w8.setCell ⟨w5.heap.size, 0, none⟩ (.int .u64 ((ofN Y).1 : Int))).setCell ⟨w5.heap.size, 1, none⟩ (.int .u64 ((ofN Y).2 : Int)) = w9 at y12 hF ⊢)
            | (have hfin := fin_set (z := w6.heap.size) (u := .int .u64 ((ofN Y).1 : Int)) (v := .int .u64 ((ofN Y).2 : Int)) HZ8.out; obtain ⟨y12, hF⟩ := hfin; have z0n := ne_of_lt_le (lt_heap HC.out.acc) HZ8.out.2; clear kz0 kz1 fz0 fz1; generalize (w8.setCell ⟨w6.heap.size, 0, none⟩ (.int .u64 ((ofN Y).1 : Int))).setCell ⟨w6.heap.size, 1, none⟩ (.int .u64 ((ofN Y).2 : Int)) = w9 at y12 hF ⊢)
            | (have hfin := fin_set (z := w7.heap.size) (u := .int .u64 ((ofN Y).1 : Int)) (v := .int .u64 ((ofN Y).2 : Int)) HZ8.out; obtain ⟨y12, hF⟩ := hfin; have z0n := ne_of_lt_le (lt_heap HC.out.acc) HZ8.out.2; clear kz0 kz1 fz0 fz1; generalize (w8.setCell ⟨w7.heap.size, 0, none⟩ (.int .u64 ((ofN Y).1 : Int))).setCell ⟨w7.heap.size, 1, none⟩ (.int .u64 ((ofN Y).2 : Int)) = w9 at y12 hF ⊢)
            | (have hfin := fin_new (wr := wr) (w8 := w8) (u := .int .u64 ((ofN Y).1 : Int)) (v := .int .u64 ((ofN Y).2 : Int)); obtain ⟨y12, hF⟩ := hfin; generalize w8.alloc (.cells #[.int .u64 ((ofN Y).1 : Int), .int .u64 ((ofN Y).2 : Int)] 61) = w9 at y12 hF ⊢)
          obtain ⟨hG9, hd9⟩ := fin_all HG2.out HB8.out hF hdbl
          have HE9 := hide (HC.out.E.kept hG9 (HM2.out.block hd9))
          have acc9 := heap_grown HC.out.acc hG9 (HC.out.E.ne HC.out.acc)
          have a0 := cell_heap (j := 0) acc9 rfl
          have a1 := cell_heap (j := 1) acc9 rfl
          have f0 := frozen_heap (j := 0) acc9
          have f1 : ∀ u, (w9.setCell ⟨w.heap.size + 1 + 1, 0, none⟩ u).frozen? ⟨w.heap.size + 1 + 1, 1, none⟩ = false := fun u => frozen_heap (heap_set acc9)
          have a2 : ∀ u, (w9.setCell ⟨w.heap.size + 1 + 1, 0, none⟩ u).cell? ⟨w.heap.size + 1 + 1, 1, none⟩ = some (.int .u64 ((ofN (accX X1 X2 i)).2 : Int)) := fun u => cell_heap (heap_set acc9) rfl
          have t0 := cell_heap (j := 0) y12 rfl
          have t1 := cell_heap (j := 1) y12 rfl
          have hXY : accX X1 X2 i + Y < 340282366920938463463374607431768211456 := by
            have := HAC.out
            have hle : accX X1 X2 (i + 1) ≤ X1 + X2 := by unfold accX; split <;> (try split) <;> omega
            omega
          obtain ⟨h1w, hh1, hh2, hh3⟩ := add_words hXY
          have hadd := fun w' => add_run (a := (ofN (accX X1 X2 i)).2) (b := (ofN Y).2) w'
          rw [hh3, ← HAC.out] at hadd
          rw [← HAC.out] at hh2
          have HCN := hide (cr_next (X' := accX X1 X2 (i + 1)) HC.out hG9 HE9.out HD2.out (HNX.out _ HN2.out) hlow HB.out.size)
          clear hG9 hd9 acc9 y12 hF hh3 hXY
          generalize ((ofN (accX X1 X2 i)).2 + (ofN Y).2) / 18446744073709551616 = cy at *
          go_wp2_with fail
          go_roundw
          case rel => exact ⟨i + 1, N2, fd2, by go_num, by omega, HCN.out⟩
          case measure => simp [intOf]; omega)
      · have e : i = 2 := by omega
        have d1 : decide ((i : Int) < 2) = false := by simp; omega
        have hC2 := hC
        rw [e, show accX X1 X2 2 = X1 + X2 from rfl] at hC2
        have HC2 := hide hC2
        have k1 := cell_heap (j := 0) hC2.E.c1 rfl
        have a0 := cell_heap (j := 0) hC2.acc rfl
        have a1 := cell_heap (j := 1) hC2.acc rfl
        have hNb : N' < maxLen := by have := hC2.n; unfold maxLen; omega
        have hk3 := key3 (f : Int) (by omega) (by omega)
        have hNn : N' + 1 + 1 ≤ N + 2 ^ (m + 1) := by have := hC2.n; omega
        have HNN := hide hNn
        have HE' := hide e
        clear hC hC2 hNn e
        go_wp2_with (at_mapUpdate; go_must (refine wpList_putC rfl (.tmp 75) (.tmp 76) (.tmp 77) rfl HC2.out.E.done keyed3 Tryz.underlying91 hNb enc3_inj rfl (f : Int) _ rfl hk3 (ofN (X1 + X2)) rfl ?_))
        intro w6 hmi hmt
        have hg6 := hmt.grown
        have acc6 := heap_grown HC2.out.acc hg6 (HC2.out.E.ne HC2.out.acc)
        have res6 := heap_grown HC2.out.res hg6 (HC2.out.E.ne HC2.out.res)
        have p0 := cell_heap (j := 0) acc6 rfl
        have p1 := cell_heap (j := 1) acc6 rfl
        have r0 := cell_heap (j := 0) res6 rfl
        have fz := frozen_heap (j := 0) res6
        have r1' : ∀ u, (w6.setCell ⟨w.heap.size, 0, none⟩ u).cell? ⟨w.heap.size, 1, none⟩ = some (.int .u64 0) := fun u => cell_heap (heap_set res6) rfl
        have fz' : ∀ u, (w6.setCell ⟨w.heap.size, 0, none⟩ u).frozen? ⟨w.heap.size, 1, none⟩ = false := fun u => frozen_heap (heap_set res6)
        have q0 := cell_heap (j := 0) (heap_set (j := 1) (u := .int .u64 ((ofN (X1 + X2)).2 : Int)) (heap_set (j := 0) (u := .int .u64 ((ofN (X1 + X2)).1 : Int)) res6)) rfl
        have q1' := cell_heap (j := 1) (heap_set (j := 1) (u := .int .u64 ((ofN (X1 + X2)).2 : Int)) (heap_set (j := 0) (u := .int .u64 ((ofN (X1 + X2)).1 : Int)) res6)) rfl
        have HX := hide (show CntOut S s.nd ov w db N (m + 1) (ofN (X1 + X2)) (.returned (.agg #[.int .u64 ((ofN (X1 + X2)).1 : Int), .int .u64 ((ofN (X1 + X2)).2 : Int)])) ((w6.setCell ⟨w.heap.size, 0, none⟩ (.int .u64 ((ofN (X1 + X2)).1 : Int))).setCell ⟨w.heap.size, 1, none⟩ (.int .u64 ((ofN (X1 + X2)).2 : Int))) from by
          obtain ⟨_, _, hs⟩ := MCnt.heap hmi
          have hne := Ne.symm (ne_kind res6 hs)
          exact ⟨N' + 1, _, rfl, gb_set (gb_set (gb_trans HC2.out.g hg6) (Nat.le_refl _) _ _) (Nat.le_refl _) _ _, HNN.out, (MCnt.setCell hmi hne _).setCell hne _, HC2.out.D.put h2 HALL.out⟩)
        have HQ01 := hide (And.intro q0 q1')
        clear hmi hmt hg6 acc6 res6 q0 q1'
        go_wp2_with fail
        generalize (w6.setCell ⟨w.heap.size, 0, none⟩ (.int .u64 ((ofN (X1 + X2)).1 : Int))).setCell ⟨w.heap.size, 1, none⟩ (.int .u64 ((ofN (X1 + X2)).2 : Int)) = w9 at *
        have q0 := HQ01.out.1
        have q1 := HQ01.out.2
        exact bodyPost_ret (v := .agg #[.int .u64 ((ofN (X1 + X2)).1 : Int), .int .u64 ((ofN (X1 + X2)).2 : Int)]) (by simp [results, Tryz.results45, go_sem, q0, q1]) rfl HX.out)
theorem count_all (S : Nat → Bool) (k : Blk) (s : St) (w0 : World) (A : Option Addr) (c : Nat) (ov : List Nat) (b1 b2 b3 b4 b5 db : Nat) (H : CntHyp S k s w0 A c ov) (hlow : w0.heap.size ≤ db) : ∀ n, CntAt S k s w0 A c ov b1 b2 b3 b4 b5 db n := by
  intro n
  induction n with
  | zero => intro f t F w N fd h; omega
  | succ n ih => exact count_step S k s w0 A c ov b1 b2 b3 b4 b5 db n H hlow ih
end Go.Proofs.YtgfjdkkfgclhjaaGreat.Bd
/- Count, whole. -/
namespace Go.Proofs.YtgfjdkkfgclhjaaGreat.Bd
open Go.RowKit Go.Proofs.YtgfjdkkfgclhjaaGreat Go.Proofs.YtgfjdkkfgclhjaaGreat.Lx Go.Maps

def fd0C : Int → Option Cn := fun x => if x = 1 then some (0, 1) else if x = 0 then some (0, 0) else none
theorem doneC_start {S : Nat → Bool} {nd : List Nd} {ov : List Nat} (hall : ∀ x ∈ ov, x < 256) : DoneC S nd ov fd0C := by
  refine ⟨rfl, rfl, fun i c hc t F d => ?_⟩
  unfold fd0C at hc
  split at hc
  · cases hc
    obtain rfl : i = 1 := by omega
    obtain ⟨rfl, rfl⟩ := d.det .one
    have e : fromL ov 256 = [] := by
      unfold fromL
      rw [List.filter_eq_nil_iff]
      intro x hx
      have := hall x hx
      simp; omega
    unfold cntN
    rw [e]
    rfl
  · split at hc
    · cases hc
      obtain rfl : i = 0 := by omega
      obtain ⟨rfl, rfl⟩ := d.det .zero
      unfold cntN
      rw [cntL_none]
      rfl
    · cases hc
theorem rises_true {S : Nat → Bool} {s : St} (hW : WF s.nd) {f t : Nat} {F : Env → Bool} (d : Den S s.nd f t F) {ov : List Nat} (hov : Rise ov) (hall : ∀ x ∈ ov, x < s.vs) (hin : ∀ x, S x = true → x ∈ ov) {w w' : World} {e : Ending} (h : RisesOut s.vs s.nd f (encL ov) w e w') : e = .returned (.bool true) ∧ Below w.heap.size w w' := by
  rcases h with ⟨hn, _⟩ | ⟨_, he, hb⟩
  · exact absurd (fun j x y hj hx hy => by
      unfold encL at hx hy
      rw [List.getElem?_map] at hx hy
      obtain ⟨a, ha, rfl⟩ := Option.map_eq_some_iff.1 hx
      obtain ⟨b, hb, rfl⟩ := Option.map_eq_some_iff.1 hy
      have h1 := lt_of_some ha
      have h2 := lt_of_some hb
      have := List.pairwise_iff_getElem.1 hov j (j + 1) h1 h2 (by omega)
      rw [List.getElem?_eq_getElem h1] at ha
      rw [List.getElem?_eq_getElem h2] at hb
      cases ha; cases hb
      omega) hn
  · refine ⟨?_, hb⟩
    rw [he, knownB_of hall]
    have : (supL s.nd f).any (notIn (encL ov)) = false := by
      rw [List.any_eq_false]
      intro x hx
      obtain ⟨v, rfl, hv⟩ := (supL_mem hW d x).1 hx
      have hm := hin v (d.hangs_in hv).2.2
      unfold notIn
      simp only [Bool.not_eq_true', Bool.not_eq_false', Bool.not_eq_eq_eq_not, Bool.not_true, List.any_eq_true, ne_eq]
      intro hc
      rw [List.any_eq_false] at hc
      exact hc (v : Int) (List.mem_map.2 ⟨v, hm, rfl⟩) (by simp)
    rw [this]
    rfl
/-- what the call lays before the walk -/
theorem cs_start {w w2 w3 w4 : World} {p : Nat} {sl : Value} (hb : Below w.heap.size w w2) (x0 : w2.heap[w.heap.size]? = some (.cells #[.pointer (some ⟨p, 0, none⟩)] 24 (0, 0))) (x1 : w2.heap[w.heap.size + 1]? = some (.cells #[sl] 30 (0, 0)))
    (ht1 : World.mapTurned ((w2.alloc (.cells #[.func (.func 43) #[] #[.pointer (some ⟨w.heap.size + 1, 0, none⟩), .pointer (some ⟨w.heap.size, 0, none⟩)]] 90)).alloc (.map #[] 0)) w3 (w2.heap.size + 1)) (ht2 : w3.mapTurned w4 (w2.heap.size + 1)) (hm : MCnt Tryz.prog w4 21 (w2.heap.size + 1) 2 enc3 fd0C) :
    Cs ((w4.alloc (.cells #[.map (some (w2.heap.size + 1))] 91)).alloc (.cells #[.func (.func 45) #[] #[.pointer (some ⟨w4.heap.size, 0, none⟩), .pointer (some ⟨w.heap.size, 0, none⟩), .pointer (some ⟨w4.heap.size + 1, 0, none⟩), .pointer (some ⟨w2.heap.size, 0, none⟩)]] 92))
      p w4.heap.size w.heap.size (w4.heap.size + 1) w2.heap.size (w.heap.size + 1) (w2.heap.size + 1) 2 sl fd0C ∧
    Below w2.heap.size w2 ((w4.alloc (.cells #[.map (some (w2.heap.size + 1))] 91)).alloc (.cells #[.func (.func 45) #[] #[.pointer (some ⟨w4.heap.size, 0, none⟩), .pointer (some ⟨w.heap.size, 0, none⟩), .pointer (some ⟨w4.heap.size + 1, 0, none⟩), .pointer (some ⟨w2.heap.size, 0, none⟩)]] 92)) := by
  have hg := (ht1.trans ht2).grown
  have hs := hg.size
  simp only [World.size_alloc] at hs
  have l0 := lt_heap x0
  have l1 := lt_heap x1
  have c4 : w4.heap[w2.heap.size]? = some (.cells #[.func (.func 43) #[] #[.pointer (some ⟨w.heap.size + 1, 0, none⟩), .pointer (some ⟨w.heap.size, 0, none⟩)]] 90 (0, 0)) := heap_grown (heap_old (heap_new _ _)) hg (opt_ne (by omega))
  have y0 := heap_grown (heap_old (heap_old x0)) hg (opt_ne (by omega))
  have y1 := heap_grown (heap_old (heap_old x1)) hg (opt_ne (by omega))
  have hb4 : Below w2.heap.size w2 w4 := (((Below.refl _ w2).alloc (Nat.le_refl _) _).alloc (by simp) _).grown hg (by simp; omega) (fun b e => by injection e with e; omega)
  refine ⟨⟨heap_old (heap_new _ _), heap_old (heap_old y0), ?_, heap_old (heap_old c4), heap_old (heap_old y1), ?_⟩, (hb4.alloc (by omega) _).alloc (by simp; omega) _⟩
  · have := heap_new (w4.alloc (.cells #[.map (some (w2.heap.size + 1))] 91)) (.cells #[.func (.func 45) #[] #[.pointer (some ⟨w4.heap.size, 0, none⟩), .pointer (some ⟨w.heap.size, 0, none⟩), .pointer (some ⟨w4.heap.size + 1, 0, none⟩), .pointer (some ⟨w2.heap.size, 0, none⟩)]] 92)
    rw [show (w4.alloc (.cells #[.map (some (w2.heap.size + 1))] 91)).heap.size = w4.heap.size + 1 by simp] at this
    exact this
  · exact (hm.kept (World.grownBy_alloc _ _ none) (by simp)).kept (World.grownBy_alloc _ _ none) (by simp)
theorem count_total {S : Nat → Bool} {nd : List Nd} {f t : Nat} {F : Env → Bool} (d : Den S nd f t F) {ov : List Nat} (hov : Rise ov) (hn : ov.length ≤ 127) : ok2 (cntN ov t F) ∧ val (cntN ov t F) * 2 ^ plc ov t < 340282366920938463463374607431768211456 ∧ ofN (val (cntN ov t F) * 2 ^ plc ov t) = ofN (cntL F ov z0) := by
  have h1 := (cnt_lt (ov := ov) F t z0 hn).1
  obtain ⟨a, b, c⟩ := half_val h1
  refine ⟨a, b, c.trans ?_⟩
  have := cnt_skip hov (Nat.zero_le t) (fun v hv ρ b => d.free hv ρ b) z0
  rw [fromL_zero, plc_zero, Nat.sub_zero] at this
  rw [this]
set_option maxHeartbeats 4000000 in
set_option maxRecDepth 100000 in
theorem Count_any (S : Nat → Bool) (k : Blk) (s : St) (f t : Nat) (F : Env → Bool) (A : Option Addr) (c : Nat) (ov : List Nat) (w : World) (hA : Ar w k s) (hv : s.vs ≤ 256) (g1 : s.gi f = true) (d : Den S s.nd f t F) (hov : Rise ov) (hall : ∀ x ∈ ov, x < s.vs) (hin : ∀ x, S x = true → x ∈ ov) (hS : Src w A ov.length c 1 ((encL ov).map encI)) (hn : ov.length ≤ 127) (hm : s.m + 2 ≤ 1000000000) (hp : 2 + 2 ^ nS S t ≤ 2000000000) :
    Calls Tryz.prog 17 #[.pointer (some ⟨k.p, 0, none⟩), .int .i64 f, .slice A ov.length c] w fun e w' => e = .returned (.tuple #[cEl (ofN (cntL F ov z0)), .int .i64 0]) ∧ Below w.heap.size w w' := by
  have hW := hA.wf
  have hnm := hA.nm
  have hfl := d.lt hW
  obtain ⟨x0, x1, x2, hb3, hs3⟩ := three_boxes w #[.pointer (some ⟨k.p, 0, none⟩)] #[.slice A ov.length c] #[.int .u64 0, .int .u64 0] 24 30 61
  obtain ⟨W, hWd⟩ : ∃ W, W = (((w.alloc (.cells #[.pointer (some ⟨k.p, 0, none⟩)] 24)).alloc (.cells #[.slice A ov.length c] 30)).alloc (.cells #[.int .u64 0, .int .u64 0] 61)) := ⟨_, rfl⟩
  rw [← hWd] at x0 x1 x2 hb3 hs3
  have hbl := below_wide hb3 (bel_one W (.cells #[.int .i64 f] 3))
  have HC := hide (check_any k s [(f : Int)] W.heap.size _ (hA.below hbl) (cells1 W f) (by simp; omega) (by simp))
  rw [show [(f : Int)].length = 1 from rfl, gvn_all (s := s) (l := [(f : Int)]) (by simp [g1]), hs3] at HC
  have HRI := hide (rises_any k s f A c (encL ov) (W.alloc (.cells #[.int .i64 f] 3)) (hA.below hbl) g1 hfl (by rw [encL_len]; exact hS.below hbl) (by rw [encL_len]; omega) hm)
  rw [encL_len] at HRI
  have y0 : (W.alloc (.cells #[.int .i64 f] 3)).cell? ⟨w.heap.size, 0, none⟩ = some (.pointer (some ⟨k.p, 0, none⟩)) := cell_heap (heap_old x0) rfl
  have y1 : (W.alloc (.cells #[.int .i64 f] 3)).cell? ⟨w.heap.size + 1, 0, none⟩ = some (.slice A ov.length c) := cell_heap (heap_old x1) rfl
  have y9 : W.cell? ⟨w.heap.size, 0, none⟩ = some (.pointer (some ⟨k.p, 0, none⟩)) := cell_heap x0 rfl
  have HX := hide (And.intro (heap_old (p := .cells #[.int .i64 f] 3) x0) (And.intro (heap_old (p := .cells #[.int .i64 f] 3) x1) (heap_old (p := .cells #[.int .i64 f] 3) x2)))
  have HRT := hide (fun (e : Ending) (w' : World) => rises_true (w := (W.alloc (.cells #[.int .i64 f] 3))) (w' := w') (e := e) hW d hov hall hin)
  have HBL := hide hbl
  have HH : Hid (CntHyp S k s w A c ov) := hide ⟨hA, hov, fun x hx => by have := hall x hx; omega, hin, hS, hn, hm⟩
  have HD := hide d
  have HT := hide (count_total d hov hn)
  have hmm := @run_makeMap Tryz.prog
  have hk0 := key3 0 (by omega) (by omega)
  have hk1 := key3 1 (by omega) (by omega)
  have d127 : decide ((127 : Int) < ov.length) = false := by simp; omega
  have hwr : IntKind.i32.wrap (f : Int) = f := wrap3 (by omega) (by omega)
  clear hA d hov hall hin hS hbl hb3 hs3 x0 x1 x2 g1
  subst hWd
  go_enter Tryz.func17, Tryz.ntmps17
  go_wp2_with fail
  refine HC.out.mono ?_
  rintro e w1 ⟨rfl, rfl⟩
  go_wp2_with fail
  refine HRI.out.mono ?_
  intro e w2 hh
  obtain ⟨rfl, hb⟩ := HRT.out e w2 hh
  have z0 := heapB hb HX.out.1
  have z1 := heapB hb HX.out.2.1
  have z2 := heapB hb HX.out.2.2
  have HZ := hide (And.intro z0 (And.intro z1 z2))
  have HB2 := hide (below_wide HBL.out hb)
  have v0 := cell_heap (j := 0) z0 rfl
  have v1 := cell_heap (j := 0) z1 rfl
  have HMS := hide (MCnt.made (P := Tryz.prog) (w2.alloc (.cells #[.func (.func 43) #[] #[.pointer (some ⟨w.heap.size + 1, 0, none⟩), .pointer (some ⟨w.heap.size, 0, none⟩)]] 90)) 21 enc3)
  rw [show (w2.alloc (.cells #[.func (.func 43) #[] #[.pointer (some ⟨w.heap.size + 1, 0, none⟩), .pointer (some ⟨w.heap.size, 0, none⟩)]] 90)).heap.size = w2.heap.size + 1 by simp] at HMS
  clear hh hb z0 z1 z2 y0 y1 y9 HC HRI HRT HX
  go_wp2_with (refine wpList_insC rfl (.tmp 32) _ _ rfl HMS.out keyed3 Tryz.underlying91 (by unfold maxLen; omega) enc3_inj rfl (0 : Int) _ rfl hk0 (0, 0) rfl ?_)
  intro w3 hm1 ht1
  have HM1 := hide hm1
  have HT1 := hide ht1
  clear hm1 ht1
  go_wp2_with (refine wpList_insC rfl (.tmp 32) _ _ rfl HM1.out keyed3 Tryz.underlying91 (by unfold maxLen; omega) enc3_inj rfl (1 : Int) _ rfl hk1 (0, 1) rfl ?_)
  intro w4 hm2 ht2
  have HM2 := hide hm2
  have HT2 := hide ht2
  clear hm2 ht2
  have HV := hide (cs_start HB2.out HZ.out.1 HZ.out.2.1 HT1.out HT2.out HM2.out)
  go_wp2_with fail
  have HR2 := hide (heapB HV.out.2 HZ.out.2.2)
  have HC5 := hide HV.out.1
  have HB5 := hide (below_wide HB2.out HV.out.2)
  clear HV HM1 HM2 HT1 HT2 HMS
  generalize ((w4.alloc (.cells #[.map (some (w2.heap.size + 1))] 91)).alloc (.cells #[.func (.func 45) #[] #[.pointer (some ⟨w4.heap.size, 0, none⟩), .pointer (some ⟨w.heap.size, 0, none⟩), .pointer (some ⟨w4.heap.size + 1, 0, none⟩), .pointer (some ⟨w2.heap.size, 0, none⟩)]] 92)) = w5 at *
  have s2 := HB2.out.size
  have HE5 := hide (HC5.out.below ((Below.refl w5.heap.size w5).drew))
  have HWK := hide (count_all S k s w A c ov w4.heap.size w.heap.size (w4.heap.size + 1) w2.heap.size (w.heap.size + 1) (w2.heap.size + 1) HH.out (by omega) (f + 1) f t F w5.drew 2 fd0C (by omega) HD.out HB5.out.drew HE5.out (doneC_start HH.out.hall) hp)
  have HTM := hide (fun w' => times_any (cntN ov t F) (plc ov t) w' HT.out.1 HT.out.2.1 (by have := plc_le ov t; omega))
  rw [HT.out.2.2] at HTM
  have HPL := hide (fun (w' : World) (hb : Below w.heap.size w w') (h5 : w'.cell? ⟨w.heap.size + 1, 0, none⟩ = some (.slice A ov.length c)) (h3 : w'.cell? ⟨w.heap.size, 0, none⟩ = some (.pointer (some ⟨k.p, 0, none⟩))) => place_any S k s f t F A c ov (w.heap.size + 1) w.heap.size w' (HH.out.hA.below hb) HD.out HH.out.hov HH.out.hall (fun h2 => HH.out.hin _ (by
    obtain ⟨_, _, _, _, _, _, _, _, _, _, _, _, _, h, _⟩ := HD.out.row h2
    exact h)) (Src.below HH.out.hS hb) HH.out.hn h5 h3 HH.out.hm)
  generalize hX : ofN (cntL F ov z0) = X at *
  generalize hpt : plc ov t = pt at *
  unfold cEl at HTM
  have k5 : w5.drew.cell? ⟨w4.heap.size + 1, 0, none⟩ = some (.func (.func 45) #[] #[.pointer (some ⟨w4.heap.size, 0, none⟩), .pointer (some ⟨w.heap.size, 0, none⟩), .pointer (some ⟨w4.heap.size + 1, 0, none⟩), .pointer (some ⟨w2.heap.size, 0, none⟩)]) ∧ w5.drew.cell? ⟨w2.heap.size, 0, none⟩ = some (.func (.func 43) #[] #[.pointer (some ⟨w.heap.size + 1, 0, none⟩), .pointer (some ⟨w.heap.size, 0, none⟩)]) := ⟨cell_heap HE5.out.c3 rfl, cell_heap HE5.out.c4 rfl⟩
  have HPT := hide hpt
  have HXX := hide hX
  have HR5 := hide (show w5.drew.heap[w.heap.size + 1 + 1]? = _ from HR2.out)
  clear v0 v1 hX hpt
  go_region_held3 (fun w' => w'.cell? ⟨w4.heap.size + 1, 0, none⟩ = some (.func (.func 45) #[] #[.pointer (some ⟨w4.heap.size, 0, none⟩), .pointer (some ⟨w.heap.size, 0, none⟩), .pointer (some ⟨w4.heap.size + 1, 0, none⟩), .pointer (some ⟨w2.heap.size, 0, none⟩)]) ∧ w'.cell? ⟨w2.heap.size, 0, none⟩ = some (.func (.func 43) #[] #[.pointer (some ⟨w.heap.size + 1, 0, none⟩), .pointer (some ⟨w.heap.size, 0, none⟩)]))
    (first | exact k5 | exact k6 | exact k7 | exact k8 | exact k9 _ | exact k10 _ _)
    (first
      | (go_at_call 45; (with_reducible refine HWK.out.mono ?_); intro e w6 hh; unfold CntOut at hh; obtain ⟨N2, fd2, he, hg2, hn2, hm2, hD2⟩ := hh; unfold cEl at he; subst he; have HE6 := hide (HE5.out.kept hg2 hm2); have HB6 := hide (HB5.out.drew.grown hg2 HB5.out.drew.size (fun b e => by injection e with e; omega)); have HR6 := hide (heap_grown HR5.out hg2 (HE5.out.ne HR5.out)); have k6 := And.intro (cell_heap (j := 0) HE6.out.c3 rfl) (cell_heap (j := 0) HE6.out.c4 rfl); clear hg2 hn2 hm2 hD2)
      | (go_at_call 43; (with_reducible refine (HPL.out _ HB6.out (cell_heap HE6.out.c5 rfl) (cell_heap HE6.out.c2 rfl)).mono ?_); rintro e w7 ⟨rfl, hb7⟩; have HB7 := hide (HB6.out.trans (hb7.mono HB6.out.size)); have HE7 := hide (HE6.out.below hb7); have HR7 := hide (heapB hb7 HR6.out); have k7 := And.intro (cell_heap (j := 0) HE7.out.c3 rfl) (cell_heap (j := 0) HE7.out.c4 rfl); clear hb7)
      | (go_at_call 46; (with_reducible refine (HTM.out _).mono ?_); rintro e w8 ⟨rfl, hb8⟩; have HB8 := hide (HB7.out.trans (hb8.mono HB7.out.size)); have HE8 := hide (HE7.out.below hb8); have hr8 := heapB hb8 HR7.out; have HR8 := hide hr8; have k8 := And.intro (cell_heap (j := 0) HE8.out.c3 rfl) (cell_heap (j := 0) HE8.out.c4 rfl); have r0 := cell_heap (j := 0) hr8 rfl; have rf0 := frozen_heap (j := 0) hr8; have r1 := fun (u : Value) => cell_heap (j := 1) (heap_set (j := 0) (u := u) hr8) rfl; have rf1 := fun (u : Value) => frozen_heap (j := 1) (heap_set (j := 0) (u := u) hr8); have k9 := fun (u : Value) => And.intro (cell_heap (j := 0) (HE8.out.far (j := 0) (u := u) hr8).c3 rfl) (cell_heap (j := 0) (HE8.out.far (j := 0) (u := u) hr8).c4 rfl); have k10 := fun (u v : Value) => And.intro (cell_heap (j := 0) ((HE8.out.far (j := 0) (u := u) hr8).far (j := 1) (u := v) (heap_set hr8)).c3 rfl) (cell_heap (j := 0) ((HE8.out.far (j := 0) (u := u) hr8).far (j := 1) (u := v) (heap_set hr8)).c4 rfl); clear hb8 hr8))
  all_goals (
    have q0h := hide (cell_heap (j := 0) (heap_set (j := 1) (u := .int .u64 (X.2 : Int)) (heap_set (j := 0) (u := .int .u64 (X.1 : Int)) HR8.out)) rfl)
    have q1h := hide (cell_heap (j := 1) (heap_set (j := 1) (u := .int .u64 (X.2 : Int)) (heap_set (j := 0) (u := .int .u64 (X.1 : Int)) HR8.out)) rfl)
    have HBF := hide ((HB8.out.setCell (p := ⟨w.heap.size + 1 + 1, 0, none⟩) (by simp; omega) (.int .u64 (X.1 : Int))).setCell (p := ⟨w.heap.size + 1 + 1, 1, none⟩) (by simp; omega) (.int .u64 (X.2 : Int)))
    clear k8 k9 k10 r0 rf0 r1 rf1
    go_wp2_with fail
    generalize (w8.setCell ⟨w.heap.size + 1 + 1, 0, none⟩ (.int .u64 (X.1 : Int))).setCell ⟨w.heap.size + 1 + 1, 1, none⟩ (.int .u64 (X.2 : Int)) = w9 at *
    have q0 := q0h.out
    have q1 := q1h.out
    exact bodyPost_ret (v := .tuple #[.agg #[.int .u64 (X.1 : Int), .int .u64 (X.2 : Int)], .int .i64 0]) (by simp [results, Tryz.results17, go_sem, q0, q1]) rfl ⟨by rw [HXX.out]; rfl, HBF.out⟩)
end Go.Proofs.YtgfjdkkfgclhjaaGreat.Bd
