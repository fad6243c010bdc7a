/- What the claim leans on, part 5 of 13: EC CR EE EF EG EH EI CK CQ EJ EK0. -/
import Derived.Laws.AppendOwn
import Derived.Laws.BytesArg
import Derived.Laws.OwnMore
import Derived.Maps.AppendAt
import Derived.OwnWalk
import Derived.Test.YtgfjdkkfgclhjaaGreatPl01
import Derived.Test.YtgfjdkkfgclhjaaGreatPl02
import Derived.Test.YtgfjdkkfgclhjaaGreatPl03
import Derived.Test.YtgfjdkkfgclhjaaGreatPl04
/- The document's At, Support, Count and Least in plain Lean, and what they are of a node. No step of a program is in sight. -/
namespace Go.Proofs.YtgfjdkkfgclhjaaGreat.Bd
open Go.Proofs.YtgfjdkkfgclhjaaGreat

/-! ### At -/
def atRow (n : Nat) (vals : List Bool) : Nat → Nat
  | 0 => 0
  | k + 1 => setR n (atRow n vals k) k (vals.getD k false)
theorem atRow_lt {n : Nat} (vals : List Bool) : ∀ k, k ≤ n → atRow n vals k < 2 ^ n
  | 0, _ => Nat.two_pow_pos n
  | k + 1, h => setR_lt _ (by omega) (atRow_lt vals k (by omega))
theorem atRow_env {n : Nat} (vals : List Bool) : ∀ k, k ≤ n → ∀ v, v < k → rowE n (atRow n vals k) v = vals.getD v false
  | 0, _, v, h => absurd h (Nat.not_lt_zero v)
  | k + 1, h, v, hv => by
    rw [atRow, rowE_set _ (by omega)]
    unfold upd
    by_cases e : v = k
    · rw [if_pos e, e]
    · rw [if_neg e, atRow_env vals k (by omega) v (by omega)]
def atR (n : Nat) (f : Tb) (vals : List Bool) : Bool := f.getD (atRow n vals n) false
theorem at_tab {n : Nat} {F : Env → Bool} (hF : Hn n F) (vals : List Bool) : atR n (tab n F) vals = F (envOf vals) := by
  unfold atR
  rw [tab_getD F (atRow_lt vals n (Nat.le_refl _))]
  exact hF _ _ (fun v hv => atRow_env vals n (Nat.le_refl _) v hv)
/-! ### Support -/
def supR (n : Nat) (f : Tb) : List Nat := (List.range n).filter fun v => decide (restR n f v false ≠ restR n f v true)
theorem upd_hn {n v : Nat} {F : Env → Bool} (hF : Hn n F) (b : Bool) : Hn n fun ρ => F (upd ρ v b) := fun ρ σ h => hF _ _ (fun x hx => by
  unfold upd
  split
  · rfl
  · exact h x hx)
theorem hangs_iff {n v : Nat} {F : Env → Bool} (hF : Hn n F) (hv : v < n) : (restR n (tab n F) v false ≠ restR n (tab n F) v true) ↔ Hangs F v := by
  rw [rest_tab F false hv, rest_tab F true hv]
  constructor
  · intro h
    apply Classical.byContradiction
    intro hh
    exact h (congrArg (tab n) (funext fun ρ => Classical.byContradiction fun e => hh ⟨ρ, e⟩))
  · rintro ⟨ρ, hρ⟩ e
    exact hρ (congrFun (tab_inj (upd_hn hF false) (upd_hn hF true) e) ρ)
theorem encL_up {l : List Nat} (h : l.Pairwise (· < ·)) : Ld.Up (encL l) := by
  unfold encL Ld.Up
  exact List.pairwise_map.2 (h.imp (fun h => by omega))
theorem sup_tab {n : Nat} {nd : List Nd} (hw : WF nd) {f t : Nat} {F : Env → Bool} (d : Den (lowV n) nd f t F) : supL nd f = encL (supR n (tab n F)) := by
  refine Ld.up_eq _ _ (supL_up nd f) (encL_up ((List.pairwise_lt_range (n := n)).filter _)) (fun x => ?_)
  rw [supL_mem hw d]
  unfold encL
  rw [List.mem_map]
  constructor
  · rintro ⟨v, rfl, h⟩
    have hv := of_decide_eq_true (d.hangs_in h).2.2
    exact ⟨v, List.mem_filter.2 ⟨List.mem_range.2 hv, decide_eq_true ((hangs_iff d.hn hv).2 h)⟩, rfl⟩
  · rintro ⟨v, h, rfl⟩
    obtain ⟨h1, h2⟩ := List.mem_filter.1 h
    exact ⟨v, rfl, (hangs_iff d.hn (List.mem_range.1 h1)).1 (of_decide_eq_true h2)⟩
/-! ### Count and Least -/
def expR (n : Nat) : List Nat → Nat → List Nat
  | [], r => [r]
  | v :: vs, r => expR n vs r ++ expR n vs (setR n r v true)
def rowsR (n : Nat) (l : List Nat) : List Nat := l.foldl (fun out v => out.flatMap fun r => [r, setR n r v true]) [0]
theorem rows_fold (n : Nat) : ∀ (l out : List Nat), l.foldl (fun out v => out.flatMap fun r => [r, setR n r v true]) out = out.flatMap (expR n l)
  | [], out => by
    show out = out.flatMap fun r => [r]
    simp
  | v :: vs, out => by
    rw [List.foldl_cons, rows_fold n vs, List.flatMap_assoc]
    congr 1
    funext r
    simp [expR]
theorem rows_exp (n : Nat) (l : List Nat) : rowsR n l = expR n l 0 := by
  unfold rowsR
  rw [rows_fold]
  simp
theorem exp_bit {n x : Nat} (hx : x < n) : ∀ (l : List Nat) (r : Nat), (∀ v ∈ l, v < n) → x ∉ l → ∀ q ∈ expR n l r, rowB n q x = rowB n r x
  | [], r, _, _, q, hq => by rw [List.mem_singleton.1 hq]
  | v :: vs, r, hl, hn, q, hq => by
    have hv := hl v List.mem_cons_self
    have h1 : x ≠ v := fun e => hn (e ▸ List.mem_cons_self)
    have h2 : x ∉ vs := fun h => hn (List.mem_cons_of_mem _ h)
    rcases List.mem_append.1 hq with h | h
    · exact exp_bit hx vs r (fun y hy => hl y (List.mem_cons_of_mem _ hy)) h2 q h
    · rw [exp_bit hx vs _ (fun y hy => hl y (List.mem_cons_of_mem _ hy)) h2 q h, rowB_set _ hv hx, if_neg h1]
theorem exp_lt {n : Nat} : ∀ (l : List Nat) (r : Nat), (∀ v ∈ l, v < n) → r < 2 ^ n → ∀ q ∈ expR n l r, q < 2 ^ n
  | [], r, _, hr, q, hq => by rw [List.mem_singleton.1 hq]; exact hr
  | v :: vs, r, hl, hr, q, hq => by
    rcases List.mem_append.1 hq with h | h
    · exact exp_lt vs r (fun y hy => hl y (List.mem_cons_of_mem _ hy)) hr q h
    · exact exp_lt vs _ (fun y hy => hl y (List.mem_cons_of_mem _ hy)) (setR_lt _ (hl v List.mem_cons_self) hr) q h
theorem exp_len (n : Nat) : ∀ (l : List Nat) (r : Nat), (expR n l r).length = 2 ^ l.length
  | [], _ => rfl
  | v :: vs, r => by rw [expR, List.length_append, exp_len n vs, exp_len n vs, List.length_cons, Nat.pow_succ]; omega
theorem row_keep {n r v : Nat} (h : rowB n r v = false) : upd (rowE n r) v false = rowE n r := by
  funext x
  unfold upd
  split
  · rename_i e
    rw [e]
    unfold rowE
    rw [h, Bool.and_false]
  · rfl
def countR (f : Tb) (l : List Nat) : Nat := (l.filter fun r => f.getD r false).length
theorem countR_app (f : Tb) (a b : List Nat) : countR f (a ++ b) = countR f a + countR f b := by unfold countR; rw [List.filter_append, List.length_append]
theorem count_exp {n : Nat} (F : Env → Bool) : ∀ (l : List Nat) (r : Nat), (∀ v ∈ l, v < n) → l.Pairwise (· < ·) → (∀ v ∈ l, rowB n r v = false) → r < 2 ^ n → countR (tab n F) (expR n l r) = cntL F l (rowE n r)
  | [], r, _, _, _, hr => by
    unfold countR cntL
    rw [expR, List.filter_cons, tab_getD F hr]
    cases F (rowE n r) <;> rfl
  | v :: vs, r, hl, hp, h0, hr => by
    obtain ⟨p1, p2⟩ := List.pairwise_cons.1 hp
    have hv := hl v List.mem_cons_self
    have hl' := fun y hy => hl y (List.mem_cons_of_mem _ hy)
    rw [expR, countR_app, cntL, count_exp F vs r hl' p2 (fun y hy => h0 y (List.mem_cons_of_mem _ hy)) hr, count_exp F vs _ hl' p2 (fun y hy => by
      have := p1 y hy
      rw [rowB_set _ hv (hl' y hy), if_neg (by omega)]
      exact h0 y (List.mem_cons_of_mem _ hy)) (setR_lt _ hv hr), rowE_set _ hv, row_keep (h0 v List.mem_cons_self)]
theorem rowE_zero (n : Nat) : rowE n 0 = fun _ => false := by
  funext v
  unfold rowE rowB
  rw [Nat.zero_testBit, Bool.and_false]
theorem rowB_zero (n v : Nat) : rowB n 0 v = false := Nat.zero_testBit _
theorem count_tab {n : Nat} (F : Env → Bool) {l : List Nat} (hl : ∀ v ∈ l, v < n) (hp : l.Pairwise (· < ·)) : countR (tab n F) (rowsR n l) = cntL F l fun _ => false := by
  rw [rows_exp, count_exp F l 0 hl hp (fun v _ => rowB_zero n v) (Nat.two_pow_pos n), rowE_zero]
def leastR (n : Nat) (f : Tb) (l : List Nat) : Option (List Bool) := ((rowsR n l).find? fun r => f.getD r false).map fun r => l.map (rowB n r)
theorem least_exp {n : Nat} {S : Nat → Bool} {nd : List Nd} (hw : WF nd) (F : Env → Bool) : ∀ (l : List Nat) (r i t : Nat) (G : Env → Bool), Den S nd i t G → l.Pairwise (· < ·) → (∀ x, S x = true → t ≤ x → x < 256 → x ∈ l) → (∀ v ∈ l, v < n) → (∀ v ∈ l, rowB n r v = false) → r < 2 ^ n → (∀ q ∈ expR n l r, F (rowE n q) = G (rowE n q)) → i ≠ 0 → ∃ q, (expR n l r).find? (fun r => (tab n F).getD r false) = some q ∧ q ∈ expR n l r ∧ l.map (rowB n q) = lst nd l i
  | [], r, i, t, G, d, _, hin, _, _, hr, hF, hi => by
    refine ⟨r, ?_, List.mem_singleton.2 rfl, by simp [lst]⟩
    rcases Nat.lt_or_ge i 2 with h2 | h2
    · have hG := (d.ends h2).2
      rw [expR, List.find?_cons_of_pos]
      rw [tab_getD F hr, hF r (List.mem_singleton.2 rfl), hG]
      exact decide_eq_true (by omega)
    · obtain ⟨_, _, _, _, _, _, _, _, _, _, _, _, r6, r7, _⟩ := d.row h2
      exact absurd (hin t r7 (Nat.le_refl _) r6) (by simp)
  | v :: vs, r, i, t, G, d, hp, hin, hl, h0, hr, hF, hi => by
    obtain ⟨p1, p2⟩ := List.pairwise_cons.1 hp
    have hv := hl v List.mem_cons_self
    have hl' := fun y hy => hl y (List.mem_cons_of_mem _ hy)
    have h0' := fun y hy => h0 y (List.mem_cons_of_mem _ hy)
    have hvn : v ∉ vs := fun h => by have := p1 v h; omega
    have h0s : ∀ y ∈ vs, rowB n (setR n r v true) y = false := fun y hy => by
      have := p1 y hy
      rw [rowB_set _ hv (hl' y hy), if_neg (by omega)]
      exact h0' y hy
    by_cases hc : 2 ≤ i ∧ t = v
    · obtain ⟨h2, rfl⟩ := hc
      obtain ⟨lo, hi', tl, th, Fl, Fh, hrow, r1, r2, r3, r4, r5, r6, r7, dl, dh, rfl⟩ := d.row h2
      rw [lst_hit hrow h2]
      have hsub : ∀ tt, t < tt → ∀ x, S x = true → tt ≤ x → x < 256 → x ∈ vs := by
        intro tt htt x hx h1 h3
        rcases List.mem_cons.1 (hin x hx (by omega) h3) with e | e
        · omega
        · exact e
      have hA : ∀ q ∈ expR n vs r, F (rowE n q) = Fl (rowE n q) := fun q hq => by
        rw [hF q (List.mem_append_left _ hq)]
        have hb := exp_bit hv vs r hl' hvn q hq
        rw [h0 t List.mem_cons_self] at hb
        simp only [rowE, hb, Bool.and_false, Bool.false_eq_true, if_false]
      by_cases hlo : lo = 0
      · subst hlo
        have hnone : (expR n vs r).find? (fun r => (tab n F).getD r false) = none := by
          rw [List.find?_eq_none]
          intro q hq
          rw [tab_getD F (exp_lt vs r hl' hr q hq), hA q hq, (dl.det .zero).2]
          exact Bool.false_ne_true
        have hB : ∀ q ∈ expR n vs (setR n r t true), F (rowE n q) = Fh (rowE n q) := fun q hq => by
          rw [hF q (List.mem_append_right _ hq)]
          have hb := exp_bit hv vs _ hl' hvn q hq
          rw [rowB_set _ hv hv, if_pos rfl] at hb
          simp only [rowE, hb, decide_eq_true hv, Bool.and_true, if_true]
        obtain ⟨q, e1, e2, e3⟩ := least_exp hw F vs _ hi' th Fh dh p2 (hsub th r5) hl' h0s (setR_lt _ hv hr) hB (by omega)
        refine ⟨q, by rw [expR, List.find?_append, hnone, e1]; rfl, List.mem_append_right _ e2, ?_⟩
        have hb := exp_bit hv vs _ hl' hvn q e2
        rw [rowB_set _ hv hv, if_pos rfl] at hb
        rw [List.map_cons, e3, hb]
        rfl
      · obtain ⟨q, e1, e2, e3⟩ := least_exp hw F vs _ lo tl Fl dl p2 (hsub tl r4) hl' h0' hr hA hlo
        refine ⟨q, by rw [expR, List.find?_append, e1]; rfl, List.mem_append_left _ e2, ?_⟩
        have hb := exp_bit hv vs _ hl' hvn q e2
        rw [h0 t List.mem_cons_self] at hb
        rw [List.map_cons, e3, hb, if_neg hlo, decide_eq_false hlo]
    · have hrow : ∃ lo hi, nd[i]? = some (t, lo, hi) := by
        cases d with
        | zero => exact ⟨_, _, hw.e0⟩
        | one => exact ⟨_, _, hw.e1⟩
        | node h h2 hl hh hne h1 h3 hv hS dl dh => exact ⟨_, _, h⟩
      obtain ⟨lo, hi', hrow⟩ := hrow
      rw [lst_miss hrow hc]
      obtain ⟨q, e1, e2, e3⟩ := least_exp hw F vs r i t G d p2 (fun x hx h1 h3 => by
        rcases List.mem_cons.1 (hin x hx h1 h3) with e | e
        · subst e
          exfalso
          rcases Nat.lt_or_ge i 2 with h2 | h2
          · have := (d.ends h2).1; omega
          · obtain ⟨_, _, _, _, _, _, _, _, _, _, _, _, r6, r7, _⟩ := d.row h2
            rcases List.mem_cons.1 (hin t r7 (Nat.le_refl _) r6) with e | e
            · exact hc ⟨h2, e⟩
            · have := p1 t e; omega
        · exact e) hl' h0' hr (fun q hq => hF q (List.mem_append_left _ hq)) hi
      refine ⟨q, by rw [expR, List.find?_append, e1]; rfl, List.mem_append_left _ e2, ?_⟩
      have hb := exp_bit hv vs _ hl' hvn q e2
      rw [h0 v List.mem_cons_self] at hb
      rw [List.map_cons, e3, hb]
theorem least_tab {n : Nat} {S : Nat → Bool} {nd : List Nd} (hw : WF nd) {f t : Nat} {F : Env → Bool} (d : Den S nd f t F) {l : List Nat} (hl : ∀ v ∈ l, v < n) (hp : l.Pairwise (· < ·)) (hin : ∀ x, S x = true → t ≤ x → x < 256 → x ∈ l) : leastR n (tab n F) l = if f = 0 then none else some (lst nd l f) := by
  unfold leastR
  rw [rows_exp]
  by_cases h0 : f = 0
  · subst h0
    rw [if_pos rfl]
    have : (expR n l 0).find? (fun r => (tab n F).getD r false) = none := by
      rw [List.find?_eq_none]
      intro q hq
      rw [tab_getD F (exp_lt l 0 hl (Nat.two_pow_pos n) q hq), (d.det .zero).2]
      exact Bool.false_ne_true
    rw [this]
    rfl
  · obtain ⟨q, e1, _, e3⟩ := least_exp hw F l 0 f t F d hp hin hl (fun v _ => rowB_zero n v) (Nat.two_pow_pos n) (fun _ _ => rfl) h0
    rw [if_neg h0, e1, ← e3]
    rfl
end Go.Proofs.YtgfjdkkfgclhjaaGreat.Bd
/- Least, whole. -/
namespace Go.Proofs.YtgfjdkkfgclhjaaGreat.Bd
open Go.RowKit Go.Proofs.YtgfjdkkfgclhjaaGreat Go.Proofs.YtgfjdkkfgclhjaaGreat.Lx Go.Maps

theorem infoB : (Tryz.prog.info? 4).map (fun i => (i.zero, i.size, i.bytes)) = some (some (.bool false), 1, 1) := by kernel_rfl
/-- a block of bools -/
def BRow (w : World) (g : Nat) (l : List Bool) : Prop := ∃ cur : Array Value, w.heap[g]? = some (.cells cur 4 (0, 0)) ∧ ∀ (j : Nat) (b : Bool), l[j]? = some b → cur[j]? = some (.bool b)
section
variable {w w' : World} {g : Nat} {l : List Bool}
theorem BRow.cell (h : BRow w g l) {j : Nat} {b : Bool} (hj : l[j]? = some b) : w.cell? ⟨g, j, none⟩ = some (.bool b) := by
  obtain ⟨cur, h1, h2⟩ := h
  exact cell_heap h1 (h2 j b hj)
theorem BRow.frozen (h : BRow w g l) (j : Nat) : w.frozen? ⟨g, j, none⟩ = false := by
  obtain ⟨cur, h1, h2⟩ := h
  exact frozen_heap h1
theorem BRow.lt (h : BRow w g l) : g < w.heap.size := by
  obtain ⟨cur, h1, h2⟩ := h
  exact lt_heap h1
theorem BRow.put (h : BRow w g l) {x : Nat} {c : Bool} (hx : x < l.length) : BRow (w.setCell ⟨g, x, none⟩ (.bool c)) g (l.set x c) := by
  obtain ⟨cur, h1, h2⟩ := h
  refine ⟨cur.setIfInBounds x (.bool c), heap_set h1, fun j b hj => ?_⟩
  rw [List.getElem?_set] at hj
  rw [Array.getElem?_setIfInBounds]
  have hlt : x < cur.size := by
    have := h2 x _ (List.getElem?_eq_getElem hx)
    rcases Nat.lt_or_ge x cur.size with h' | h'
    · exact h'
    · rw [Array.getElem?_eq_none h'] at this; cases this
  by_cases e : x = j
  · rw [if_pos e, if_pos hx] at hj
    cases hj
    rw [if_pos e, if_pos hlt]
  · rw [if_neg e] at hj
    rw [if_neg e]
    exact h2 j b hj
theorem BRow.below (h : BRow w g l) (hb : Below w.heap.size w w') : BRow w' g l := by
  obtain ⟨cur, h1, h2⟩ := h
  exact ⟨cur, heapB hb h1, h2⟩
theorem BRow.src (h : BRow w g l) : Src w (some ⟨g, 0, none⟩) l.length l.length 1 (l.map Value.bool) := by
  refine ⟨by simp, .inr ⟨_, rfl, fun j u hu => ?_⟩⟩
  rw [List.getElem?_map] at hu
  obtain ⟨b, hb, rfl⟩ := Option.map_eq_some_iff.1 hu
  rw [show (⟨g, 0, none⟩ : Addr).add j = ⟨g, j, none⟩ by simp [Addr.add, eq_comm]]
  exact h.cell hb
theorem brow_own {base n cap : Nat} {vals : List Value} (h : w.ownsRow base 4 1 (.slice (some ⟨g, 0, none⟩) n cap) n vals) (hv : vals = l.map Value.bool) : BRow w g l := by
  rcases h.2 with ⟨h1, _⟩ | ⟨g', cap', cur, h1, _, h3, _, _, _, h5⟩
  · cases h1
  · injection h1 with h1
    injection h1 with h1
    injection h1 with h1
    subst h1
    refine ⟨cur, h3, fun j b hj => ?_⟩
    have e : vals[j]? = some (.bool b) := by rw [hv, List.getElem?_map, hj]; rfl
    rw [← h5] at e
    have := lt_of_some e
    rw [List.getElem?_take_of_lt (by simp at this; omega)] at e
    simpa using e
end
def LeastOut (nd : List Nd) (f : Nat) (ov : List Nat) (w : World) (e : Ending) (w' : World) : Prop :=
  ∃ g, e = .returned (.tuple #[.slice (some ⟨g, 0, none⟩) ov.length ov.length, .int .i64 0]) ∧ w.heap.size ≤ g ∧ BRow w' g (lst nd ov f) ∧ Below w.heap.size w w'
/-- after i of the variables: what stands in the row; where the walk is -/
structure Ls (S : Nat → Bool) (nd : List Nd) (f : Nat) (ov : List Nat) (w wr : World) (g i x : Nat) (pre : List Bool) : Prop where
  b : Below w.heap.size w wr
  row : BRow wr g (pre ++ List.replicate (ov.length - i) false)
  len : pre.length = i
  rest : lst nd ov f = pre ++ lst nd (ov.drop i) x
  den : ∃ t F, Den S nd x t F
theorem lst_cut {nd : List Nd} {v lo hi x : Nat} {vs : List Nat} (h : nd[x]? = some (v, lo, hi)) (h2 : 2 ≤ x) : lst nd (v :: vs) x = decide (lo = 0) :: lst nd vs (cut nd x v (decide (lo = 0))) := by
  have hc : cut nd x v (decide (lo = 0)) = if lo = 0 then hi else lo := by
    unfold cut
    rw [h]
    simp
  rw [lst_hit h h2, hc]
theorem set_next (pre : List Bool) (m : Nat) (c : Bool) (hm : 0 < m) : (pre ++ List.replicate m false).set pre.length c = (pre ++ [c]) ++ List.replicate (m - 1) false := by
  obtain ⟨k, rfl⟩ : ∃ k, m = k + 1 := ⟨m - 1, by omega⟩
  rw [List.set_append_right _ _ (Nat.le_refl _), Nat.sub_self, List.replicate_succ]
  simp
theorem same_next (pre : List Bool) (m : Nat) (hm : 0 < m) : pre ++ List.replicate m false = (pre ++ [false]) ++ List.replicate (m - 1) false := by
  obtain ⟨k, rfl⟩ : ∃ k, m = k + 1 := ⟨m - 1, by omega⟩
  rw [List.replicate_succ]
  simp
theorem Ls.next {S : Nat → Bool} {nd : List Nd} {f : Nat} {ov : List Nat} {w wr w' : World} {g i x x' : Nat} {pre : List Bool} {c : Bool} (h : Ls S nd f ov w wr g i x pre) (hi : i < ov.length) (hb : Below w.heap.size w w') (hr : BRow w' g ((pre ++ [c]) ++ List.replicate (ov.length - i - 1) false)) (hrest : lst nd (ov.drop i) x = c :: lst nd (ov.drop (i + 1)) x') (hd : ∃ t F, Den S nd x' t F) : Ls S nd f ov w w' g (i + 1) x' (pre ++ [c]) := by
  refine ⟨hb, hr, by simp [h.len], ?_, hd⟩
  rw [h.rest, hrest]
  simp
theorem Ls.done {S : Nat → Bool} {nd : List Nd} {f : Nat} {ov : List Nat} {w wr : World} {g x : Nat} {pre : List Bool} (h : Ls S nd f ov w wr g ov.length x pre) (hg : w.heap.size ≤ g) : LeastOut nd f ov w (.returned (.tuple #[.slice (some ⟨g, 0, none⟩) ov.length ov.length, .int .i64 0])) wr := by
  refine ⟨g, rfl, hg, ?_, h.b⟩
  have := h.row
  rw [h.rest, List.drop_length]
  simpa [lst] using this
set_option maxHeartbeats 4000000 in
set_option maxRecDepth 100000 in
theorem Least_any (S : Nat → Bool) (k : Blk) (s : St) (f t : Nat) (F : Env → Bool) (A : Option Addr) (c : Nat) (ov : List Nat) (w : World) (hA : Ar w k s) (hv : s.vs ≤ 256) (g1 : s.gi f = true) (d : Den S s.nd f t F) (hf0 : f ≠ 0) (hov : Rise ov) (hall : ∀ x ∈ ov, x < s.vs) (hin : ∀ x, S x = true → x ∈ ov) (hS : Src w A ov.length c 1 ((encL ov).map encI)) (hn : ov.length ≤ 256) (hm : s.m + 2 ≤ 1000000000) :
    Calls Tryz.prog 18 #[.pointer (some ⟨k.p, 0, none⟩), .int .i64 f, .slice A ov.length c] w (LeastOut s.nd f ov w) := by
  have hW := hA.wf
  have hnm := hA.nm
  have hfl := d.lt hW
  have hbl := bel_one w (.cells #[.int .i64 f] 3)
  have HC := hide (check_any k s [(f : Int)] w.heap.size _ (hA.below hbl) (cells1 w f) (by simp; omega) (by simp))
  rw [show [(f : Int)].length = 1 from rfl, gvn_all (s := s) (l := [(f : Int)]) (by simp [g1])] at HC
  have HRI := hide (rises_any k s f A c (encL ov) (w.alloc (.cells #[.int .i64 f] 3)) (hA.below hbl) g1 hfl (by rw [encL_len]; exact hS.below hbl) (by rw [encL_len]; omega) hm)
  rw [encL_len] at HRI
  have HRT := hide (fun (e : Ending) (w' : World) => rises_true (w := (w.alloc (.cells #[.int .i64 f] 3))) (w' := w') (e := e) hW d hov hall hin)
  have HBL := hide hbl
  have HA := hide hA
  have HS := hide hS
  have HD := hide d
  have HL := hide (And.intro hv hall)
  have d0 : decide ((f : Int) = 0) = false := by simp; omega
  have d0' : ((f : Int) == 0) = false := by simp; omega
  have hwr : IntKind.i32.wrap (f : Int) = f := wrap3 (by omega) (by omega)
  obtain ⟨i1, hi1, iz1, is1, ib1⟩ := info_at infoB
  have hlen := hn
  clear hA d hov hall hin hS hbl g1
  go_enter Tryz.func18, Tryz.ntmps18
  go_wp2_with fail
  refine HC.out.mono ?_
  rintro e w1 ⟨rfl, rfl⟩
  go_wp2_with fail
  refine HRI.out.mono ?_
  intro e w2 hh
  obtain ⟨rfl, hb⟩ := HRT.out e w2 hh
  have HB2 := hide (below_wide HBL.out hb)
  clear hh hb HRI HRT HC
  go_wp2_with (at_make; (refine wpList_make_full _ rfl _ _ 31 rfl w2.heap.size 4 i1 (.bool false) 1 Tryz.underlying31 hi1 iz1 is1 .i64 .i64 ov.length ov.length ov.length rfl rfl rfl rfl ?b2 ?b3 (Nat.le_refl _) ?_))
  case b2 => rw [ib1]; omega
  case b3 => unfold maxLen; omega
  intro w3 hown hgr
  rw [toList_madeCells_one] at hown
  have HR3 := hide (brow_own (l := List.replicate ov.length false) hown (by simp))
  have HB3 := hide (HB2.out.grown hgr HB2.out.size (fun k hk => by cases hk))
  have HG := hide HB2.out.size
  clear hown hgr
  go_wp2_with fail
  generalize w2.heap.size = g at *
  go_loopw [10, 34] (fun a j wr => ∃ (i x : Nat) (pre : List Bool), j = .int .i64 i ∧ a = .int .i32 x ∧ i ≤ ov.length ∧ Ls S s.nd f ov w wr g i x pre) (fun _ j _ => ov.length - (intOf j).toNat)
  case atStart => exact ⟨0, f, [], rfl, rfl, Nat.zero_le _, HB3.out, HR3.out, rfl, by simp, _, _, HD.out⟩
  case round =>
    obtain ⟨i, x, pre, rfl, rfl, hi, HX⟩ := hrel
    have HX := hide HX
    rcases Nat.lt_or_ge i ov.length with hlt | hge
    · have d1 : decide (i < ov.length) = true := by simpa using hlt
      have d1' : decide ((i : Int) < ov.length) = true := by simp; omega
      obtain ⟨v, hvx⟩ : ∃ v, ov[i]? = some v := ⟨_, List.getElem?_eq_getElem hlt⟩
      have hv256 : v < 256 := by have := HL.out.2 v (List.mem_of_getElem? hvx); have := HL.out.1; omega
      obtain ⟨ad, rfl, cv⟩ := src_at (HS.out.below HX.out.b) (i := i) (x := (v : Int)) (by unfold encL; rw [List.getElem?_map, hvx]; rfl)
      have hdrop : ov.drop i = v :: ov.drop (i + 1) := by
        rw [List.drop_eq_getElem_cons hlt]
        rw [List.getElem?_eq_getElem hlt] at hvx
        cases hvx
        rfl
      obtain ⟨tx, G, dx⟩ := HX.out.den
      have hxl := dx.lt hW
      have hArw := HA.out.below HX.out.b
      obtain ⟨⟨tv, lo, hi'⟩, hr⟩ : ∃ y, s.nd[x]? = some y := ⟨_, List.getElem?_eq_getElem hxl⟩
      have HAW := hide hArw
      obtain ⟨_, _, H, _⟩ := hArw
      have hc2 := H.c2
      obtain ⟨n0, n1, n2⟩ := H.node hr
      simp only at n0 n1
      have hxi : (x : Int) < s.nd.length := by omega
      have HDX := hide dx
      have HRX := hide hr
      have HDR := hide hdrop
      clear H hr dx hdrop hvx
      by_cases hc : 2 ≤ x ∧ tv = v
      · obtain ⟨h2, rfl⟩ := hc
        have e1 : decide ((1 : Int) < x) = true := by simp; omega
        have e2 : ((tv : Int) == tv) = true := by simp
        have e3 : decide ((tv : Int) = tv) = true := by simp
        have hwv : IntKind.i32.wrap (tv : Int) = tv := wrap3 (by omega) (by omega)
        have hgl : (pre ++ List.replicate (ov.length - i) false).length = ov.length := by simp [HX.out.len]; omega
        have hold : (pre ++ List.replicate (ov.length - i) false)[i]? = some false := by
          rw [List.getElem?_append_right (by rw [HX.out.len]; exact Nat.le_refl _), HX.out.len, Nat.sub_self, List.getElem?_replicate, if_pos (by omega)]
        have cr := HX.out.row.cell hold
        have fr := HX.out.row.frozen i
        have hlz : decide ((lo : Int) = 0) = decide (lo = 0) := by simp
        go_wp2_with fail
        have hcut := cut_den hW HDX.out (v := tv) (show tv ≤ tx by
          obtain ⟨_, _, _, _, _, _, hr', _⟩ := HDX.out.row h2
          rw [HRX.out] at hr'
          cases hr'
          exact Nat.le_refl _) hv256 (decide (lo = 0))
        have HBR := hide (HX.out.row.put (c := ((lo : Int) == 0)) (show i < _ by rw [hgl]; exact hlt))
        have hbs : Below w.heap.size w (wr.setCell ⟨g, i, none⟩ (.bool ((lo : Int) == 0))) := HX.out.b.setCell HG.out _
        have HBS := hide hbs
        refine (cut_any k s x tv ((lo : Int) == 0) _ (HA.out.below hbs) hxl (by omega) (by omega)).mono ?_
        rintro e w6 ⟨rfl, hb⟩
        have eb : ((lo : Int) == 0) = decide (lo = 0) := by rw [Bool.eq_iff_iff]; simp
        have HN := hide (Ls.next HX.out hlt (below_wide HBS.out hb) (c := decide (lo = 0)) (x' := cut s.nd x tv (decide (lo = 0))) (by
          have := HBR.out.below hb
          rw [eb] at this
          have e2 := set_next pre (ov.length - i) (decide (lo = 0)) (by omega)
          rw [HX.out.len] at e2
          rw [e2] at this
          exact this) (by rw [HDR.out]; exact lst_cut HRX.out h2) (by obtain ⟨t', _, d'⟩ := hcut; exact ⟨_, _, d'⟩))
        rw [eb]
        clear hb hbs hcut cr fr hold
        go_wp2_with fail
        go_roundw
        case rel => exact ⟨i + 1, _, _, by go_num, rfl, by omega, HN.out⟩
        case measure => simp [intOf]; omega
      · have HN := hide (Ls.next HX.out hlt HX.out.b (c := false) (x' := x) (by
          have := HX.out.row
          rw [same_next pre (ov.length - i) (by omega)] at this
          exact this) (by rw [HDR.out]; exact lst_miss HRX.out hc) HX.out.den)
        rcases Nat.lt_or_ge x 2 with h2 | h2
        · have e1 : decide ((1 : Int) < x) = false := by simp; omega
          go_wp2_with fail
          go_roundw
          case rel => exact ⟨i + 1, _, _, by go_num, rfl, by omega, HN.out⟩
          case measure => simp [intOf]; omega
        · have hne : tv ≠ v := fun e => hc ⟨h2, e⟩
          have htv : tv < 256 := by
            obtain ⟨_, _, _, _, _, _, hr', _, _, _, _, _, h6, _⟩ := HDX.out.row h2
            rw [HRX.out] at hr'
            cases hr'
            exact h6
          have e1 : decide ((1 : Int) < x) = true := by simp; omega
          have e2 : ((tv : Int) == v) = false := by simp; omega
          have e3 : (tv == v) = false := by simpa using hne
          have e4 : decide (tv = v) = false := by simpa using hne
          have e5 : decide ((tv : Int) = v) = false := by simp; omega
          go_wp2_with fail
          go_roundw
          case rel => exact ⟨i + 1, _, _, by go_num, rfl, by omega, HN.out⟩
          case measure => simp [intOf]; omega
    · have e : i = ov.length := by omega
      subst e
      have d1 : decide (ov.length < ov.length) = false := by simp
      have d1' : decide ((ov.length : Int) < ov.length) = false := by simp
      have HO := hide (HX.out.done HG.out)
      go_wp2_with fail
      go_ret2
      exact HO.out
end Go.Proofs.YtgfjdkkfgclhjaaGreat.Bd
/- The document's tables, walked: size, All, bit, set, Var, Ite, Restrict. -/
namespace Go.Proofs.YtgfjdkkfgclhjaaGreat.Bd
open Go.RowKit Go.Proofs.YtgfjdkkfgclhjaaGreat Go.Proofs.YtgfjdkkfgclhjaaGreat.Lx Go.Maps

set_option maxRecDepth 100000 in
theorem size_any (n : Nat) (w : World) (hn : n ≤ 20) : Calls Tryz.prog 11 #[.int .i64 n] w fun e w' => e = .returned (.int .i64 (2 ^ n : Nat)) ∧ w' = w := by
  go_enter Tryz.func11, Tryz.ntmps11
  go_wp2_with fail
  go_loopw [3, 4] (fun o j wr => ∃ i : Nat, j = .int .i64 i ∧ i ≤ n ∧ o = .int .i64 (2 ^ i : Nat) ∧ wr = w) (fun _ j _ => n - (intOf j).toNat)
  case atStart => exact ⟨0, rfl, Nat.zero_le _, rfl, rfl⟩
  case round =>
    obtain ⟨i, rfl, hi, rfl, rfl⟩ := hrel
    rcases Nat.lt_or_ge i n with hlt | hge
    · have d1 : decide (i < n) = true := decide_eq_true hlt
      have d1' : decide ((i : Int) < (n : Int)) = true := decide_eq_true (by omega)
      have hp : 2 ^ i ≤ 2 ^ 20 := Nat.pow_le_pow_right (by omega) (by omega)
      have hp' : 2 ^ i ≤ 1048576 := hp
      generalize hq : 2 ^ i = q at *
      have HQ := hide hq
      have HLT := hide hlt
      clear hq hp hlt
      go_wp2_with fail
      go_roundw
      case rel => exact ⟨i + 1, by go_num, HLT.out, by rw [Nat.pow_succ, HQ.out]; go_num, by first | rfl | trivial⟩
      case measure => have := HLT.out; simp [intOf]; omega
    · obtain rfl : i = n := by omega
      have d1 : decide (i < i) = false := decide_eq_false (by omega)
      have d1' : decide ((i : Int) < (i : Int)) = false := decide_eq_false (by omega)
      go_wp2_with fail
      go_ret
      exact ⟨rfl, rfl⟩
theorem wraps_i64 (n : Int) (h0 : 0 ≤ n) (h1 : n < 2 ^ 62) : IntKind.i64.wrap n = n := by rw [IntKind.wrap_i64]; omega
theorem bit_word (i k : Nat) (hi : i < 1048576) : (bits BinOp.and IntKind.i64 ((i : Int) / 2 ^ k) 1 == 1) = i.testBit k := by
  have h0 : ((i : Int) / 2 ^ k) = ((i / 2 ^ k : Nat) : Int) := by simp
  have hle : i / 2 ^ k ≤ i := Nat.div_le_self _ _
  have h1 := bits_mask .i64 62 (by decide) wraps_i64 1 (by decide) ((i / 2 ^ k : Nat) : Int) (Int.natCast_nonneg _) (by omega)
  rw [show ((2 : Int) ^ 1 - 1) = 1 from rfl] at h1
  rw [h0, h1, Nat.testBit_eq_decide_div_mod_eq, Bool.eq_iff_iff, beq_iff_eq, decide_eq_true_eq]
  omega
theorem xor_word (a b : Nat) (ha : a < 1048576) (hb : b < 1048576) : bits BinOp.xor IntKind.i64 (a : Int) (b : Int) = ((a ^^^ b : Nat) : Int) := by
  have h1 : a % 2 ^ IntKind.i64.bits = a := Nat.mod_eq_of_lt (Nat.lt_of_lt_of_le ha (by decide))
  have h2 : b % 2 ^ IntKind.i64.bits = b := Nat.mod_eq_of_lt (Nat.lt_of_lt_of_le hb (by decide))
  have h3 : a ^^^ b < 2 ^ 20 := Nat.xor_lt_two_pow ha hb
  simp only [bits, BitVec.ofInt_natCast, BitVec.toNat_xor, BitVec.toNat_ofNat, h1, h2]
  exact wraps_i64 _ (Int.natCast_nonneg _) (by omega)
set_option maxRecDepth 100000 in
theorem bit_any (n i v : Nat) (w : World) (hn : n ≤ 20) (hv : v < n) (hi : i < 1048576) : Calls Tryz.prog 53 #[.int .i64 n, .int .i64 i, .int .i64 v] w fun e w' => e = .returned (.bool (rowB n i v)) ∧ w' = w := by
  have HB := hide (bit_word i (n - 1 - v) hi)
  go_enter Tryz.func53, Tryz.ntmps53
  go_wp2_with fail
  go_ret
  exact ⟨by unfold rowB; rw [← HB.out]; rfl, rfl⟩
theorem pow_wrap {k : Nat} (h : k ≤ 19) : wrap64 (2 ^ k) = ((2 ^ k : Nat) : Int) := by
  have hp : 2 ^ k ≤ 2 ^ 19 := Nat.pow_le_pow_right (by omega) h
  have e : (2 : Int) ^ k = ((2 ^ k : Nat) : Int) := by simp
  rw [e]
  generalize 2 ^ k = q at *
  unfold wrap64
  omega
set_option maxRecDepth 100000 in
theorem set_any (n i v : Nat) (b : Bool) (w : World) (hn : n ≤ 20) (hv : v < n) (hi : i < 2 ^ n) : Calls Tryz.prog 48 #[.int .i64 n, .int .i64 i, .int .i64 v, .bool b] w fun e w' => e = .returned (.int .i64 (setR n i v b : Nat)) ∧ w' = w := by
  have hp : 2 ^ n ≤ 2 ^ 20 := Nat.pow_le_pow_right (by omega) hn
  have hp2 : 2 ^ (n - 1 - v) ≤ 2 ^ 19 := Nat.pow_le_pow_right (by omega) (by omega)
  have hi2 : i < 1048576 := by omega
  have HX := hide (xor_word i (2 ^ (n - 1 - v)) hi2 (by omega))
  have HBT := hide (bit_any n i v w hn hv hi2)
  have HS0 := hide (fun (h : rowB n i v = b) => show setR n i v b = i from if_pos h)
  have HS1 := hide (fun (h : ¬ rowB n i v = b) => show setR n i v b = i ^^^ 2 ^ (n - 1 - v) from if_neg h)
  have HW := hide (pow_wrap (k := n - 1 - v) (by omega))
  clear hp hi
  go_enter Tryz.func48, Tryz.ntmps48
  go_wp2_with fail
  refine HBT.out.mono ?_
  rintro e w1 ⟨rfl, hw⟩
  subst w1
  generalize rowB n i v = x at *
  cases x <;> cases b
  · have HE := hide (HS0.out rfl)
    go_wp2_with fail
    go_ret
    exact ⟨by rw [HE.out]; rfl, rfl⟩
  · have HE := hide (HS1.out (by decide))
    go_wp2_with fail
    go_ret
    exact ⟨by rw [HE.out, ← HX.out, ← HW.out]; rfl, rfl⟩
  · have HE := hide (HS1.out (by decide))
    go_wp2_with fail
    go_ret
    exact ⟨by rw [HE.out, ← HX.out, ← HW.out]; rfl, rfl⟩
  · have HE := hide (HS0.out rfl)
    go_wp2_with fail
    go_ret
    exact ⟨by rw [HE.out]; rfl, rfl⟩
end Go.Proofs.YtgfjdkkfgclhjaaGreat.Bd
/- The document's tables, walked: All, Var, Ite, Restrict. -/
namespace Go.Proofs.YtgfjdkkfgclhjaaGreat.Bd
open Go.RowKit Go.Proofs.YtgfjdkkfgclhjaaGreat Go.Proofs.YtgfjdkkfgclhjaaGreat.Lx Go.Maps

/-- a table, in memory: a block of bools -/
def TbV (w : World) (v : Value) (T : Tb) : Prop := ∃ g, v = .slice (some ⟨g, 0, none⟩) T.length T.length ∧ BRow w g T
/-- a new table -/
def RowOut (T : Tb) (w : World) (e : Ending) (w' : World) : Prop := ∃ g, e = .returned (.slice (some ⟨g, 0, none⟩) T.length T.length) ∧ w.heap.size ≤ g ∧ BRow w' g T ∧ Below w.heap.size w w'
/-- after i of the values: what stands in the row -/
structure Mk5 (w0 wr : World) (g m : Nat) (f : Nat → Bool) (i : Nat) : Prop where
  b : Below w0.heap.size w0 wr
  ge : w0.heap.size ≤ g
  row : BRow wr g (ofR i f ++ List.replicate (m - i) false)
structure Pu5 (w0 wr : World) (g m : Nat) (f : Nat → Bool) (i : Nat) (c : Bool) : Prop where
  b : Below w0.heap.size w0 wr
  ge : w0.heap.size ≤ g
  row : BRow wr g ((ofR i f ++ [c]) ++ List.replicate (m - i - 1) false)
section
variable {w0 wr w' : World} {g m i : Nat} {f : Nat → Bool} {c d : Bool}
theorem Mk5.cell (h : Mk5 w0 wr g m f i) (hi : i < m) : wr.cell? ⟨g, i, none⟩ = some (.bool false) := h.row.cell (by
  rw [List.getElem?_append_right (by rw [ofR_len]; exact Nat.le_refl _), ofR_len, Nat.sub_self, List.getElem?_replicate, if_pos (by omega)])
theorem Mk5.put (h : Mk5 w0 wr g m f i) (hi : i < m) (c : Bool) : Pu5 w0 (wr.setCell ⟨g, i, none⟩ (.bool c)) g m f i c := by
  refine ⟨h.b.setCell h.ge _, h.ge, ?_⟩
  have h1 := h.row.put (x := i) (c := c) (by simp [ofR_len]; omega)
  have h2 := set_next (ofR i f) (m - i) c (by omega)
  rw [ofR_len] at h2
  rw [h2] at h1
  exact h1
theorem Pu5.cell (h : Pu5 w0 wr g m f i c) : wr.cell? ⟨g, i, none⟩ = some (.bool c) := h.row.cell (by
  rw [List.append_assoc, List.getElem?_append_right (by rw [ofR_len]; exact Nat.le_refl _), ofR_len, Nat.sub_self]; rfl)
theorem Pu5.put (h : Pu5 w0 wr g m f i c) (d : Bool) : Pu5 w0 (wr.setCell ⟨g, i, none⟩ (.bool d)) g m f i d := by
  refine ⟨h.b.setCell h.ge _, h.ge, ?_⟩
  have h1 := h.row.put (x := i) (c := d) (by simp [ofR_len])
  rw [List.append_assoc, List.set_append_right _ _ (by rw [ofR_len]; exact Nat.le_refl _), ofR_len, Nat.sub_self] at h1
  rw [List.append_assoc]
  exact h1
theorem Pu5.below (h : Pu5 w0 wr g m f i c) (hb : Below wr.heap.size wr w') : Pu5 w0 w' g m f i c := ⟨below_wide h.b hb, h.ge, h.row.below hb⟩
theorem Mk5.below (h : Mk5 w0 wr g m f i) (hb : Below wr.heap.size wr w') : Mk5 w0 w' g m f i := ⟨below_wide h.b hb, h.ge, h.row.below hb⟩
theorem Pu5.next (h : Pu5 w0 wr g m f i c) (hc : f i = c) : Mk5 w0 wr g m f (i + 1) := by
  refine ⟨h.b, h.ge, ?_⟩
  have : ofR (i + 1) f = ofR i f ++ [c] := by unfold ofR; rw [List.range_succ, List.map_append, ← hc]; rfl
  rw [this, show m - (i + 1) = m - i - 1 by omega]
  exact h.row
theorem Mk5.done (h : Mk5 w0 wr g m f m) : RowOut (ofR m f) w0 (.returned (.slice (some ⟨g, 0, none⟩) m m)) wr := by
  refine ⟨g, by rw [ofR_len], h.ge, ?_, h.b⟩
  have := h.row
  rw [Nat.sub_self] at this
  simpa using this
theorem Mk5.start {w1 : World} (hb : Below w0.heap.size w0 w1) (hg : w0.heap.size ≤ g) (h : BRow w1 g (List.replicate m false)) : Mk5 w0 w1 g m f 0 := ⟨hb, hg, h⟩
end
theorem pow_le6 {n : Nat} (h : n ≤ 6) : 2 ^ n ≤ 64 := by have : 2 ^ n ≤ 2 ^ 6 := Nat.pow_le_pow_right (by omega) h; omega
set_option maxRecDepth 100000 in
theorem All_any (n : Nat) (b : Bool) (w : World) (hn : n ≤ 6) : Calls Tryz.prog 7 #[.int .i64 n, .bool b] w (RowOut (allR n b) w) := by
  obtain ⟨i1, hi1, iz1, is1, ib1⟩ := info_at infoB
  have hp := pow_le6 hn
  have HSZ := hide (size_any n w (by omega))
  unfold allR
  generalize 2 ^ n = m at *
  clear hn
  go_enter Tryz.func7, Tryz.ntmps7
  go_wp2_with fail
  refine HSZ.out.mono ?_
  rintro e w1 ⟨rfl, rfl⟩
  go_wp2_with (at_make; (refine wpList_make_full _ rfl _ _ 32 rfl w1.heap.size 4 i1 (.bool false) 1 Tryz.underlying32 hi1 iz1 is1 .i64 .i64 m m m rfl rfl rfl rfl ?b2 ?b3 (Nat.le_refl _) ?_))
  case b2 => rw [ib1]; omega
  case b3 => unfold maxLen; omega
  intro w3 hown hgr
  rw [toList_madeCells_one] at hown
  have hrow := brow_own (l := List.replicate m false) hown (by simp)
  have HM0 := hide (Mk5.start (f := fun _ => b) ((Below.refl w1.heap.size w1).grown hgr (Nat.le_refl _) (fun k hk => by cases hk)) (Nat.le_refl _) hrow)
  clear hown hgr hrow HSZ
  go_wp2_with fail
  generalize hgg : w1.heap.size = g at *
  clear hgg
  go_loopw [6] (fun j wr => ∃ i : Nat, j = .int .i64 i ∧ i ≤ m ∧ Mk5 w1 wr g m (fun _ => b) i) (fun j _ => m - (intOf j).toNat)
  case atStart => exact ⟨0, rfl, Nat.zero_le _, HM0.out⟩
  case round =>
    clear HM0
    obtain ⟨i, rfl, hi, hM⟩ := hrel
    have HM := hide hM
    rcases Nat.lt_or_ge i m with hlt | hge
    · have d1 : decide (i < m) = true := decide_eq_true hlt
      have d1' : decide ((i : Int) < (m : Int)) = true := decide_eq_true (by omega)
      have d2 : ((i : Int) < (m : Int)) := by omega
      have cr := hM.cell hlt
      have fr := hM.row.frozen i
      have HLT := hide hlt
      clear hM hlt
      go_wp2_with fail
      go_roundw
      case rel => exact ⟨i + 1, by go_num, HLT.out, (HM.out.put HLT.out b).next rfl⟩
      case measure => have := HLT.out; simp [intOf]; omega
    · obtain rfl : i = m := by omega
      have d1 : decide (i < i) = false := decide_eq_false (by omega)
      have d1' : decide ((i : Int) < (i : Int)) = false := decide_eq_false (by omega)
      clear hM
      go_wp2_with fail
      go_ret
      exact HM.out.done
theorem ofR_const (m : Nat) (b : Bool) : ofR m (fun _ => b) = List.replicate m b := by
  unfold ofR
  rw [List.map_const', List.length_range]
set_option maxRecDepth 100000 in
theorem Var_tab (n v : Nat) (w : World) (hn : n ≤ 6) (hv : v < n) : Calls Tryz.prog 30 #[.int .i64 n, .int .i64 v] w (RowOut (varR n v) w) := by
  have hp := pow_le6 hn
  have HAL := hide (All_any n false w hn)
  have HBT := hide (fun (i : Nat) (w' : World) (h : i < 2 ^ n) => bit_any n i v w' (by omega) hv (by omega))
  unfold varR
  unfold allR at HAL
  rw [ofR_const] at HAL
  generalize 2 ^ n = m at *
  clear hn hv
  go_enter Tryz.func30, Tryz.ntmps30
  go_wp2_with fail
  refine HAL.out.mono ?_
  rintro e w1 ⟨g, rfl, hge, hrow, hb⟩
  rw [List.length_replicate]
  have HM0 := hide (Mk5.start (f := fun i => rowB n i v) hb hge hrow)
  clear HAL hge hrow hb
  go_wp2_with fail
  go_loopw [6] (fun j wr => ∃ i : Nat, j = .int .i64 i ∧ i ≤ m ∧ Mk5 w wr g m (fun i => rowB n i v) i) (fun j _ => m - (intOf j).toNat)
  case atStart => exact ⟨0, rfl, Nat.zero_le _, HM0.out⟩
  case round =>
    clear HM0
    obtain ⟨i, rfl, hi, hM⟩ := hrel
    have HM := hide hM
    rcases Nat.lt_or_ge i m with hlt | hge
    · have d1 : decide (i < m) = true := decide_eq_true hlt
      have d1' : decide ((i : Int) < (m : Int)) = true := decide_eq_true (by omega)
      have d2 : ((i : Int) < (m : Int)) := by omega
      have cr := hM.cell hlt
      have fr := hM.row.frozen i
      have HB := hide (HBT.out i wr hlt)
      have HLT := hide hlt
      clear hM hlt
      go_wp2_with fail
      refine HB.out.mono ?_
      rintro e w2 ⟨rfl, rfl⟩
      go_wp2_with fail
      go_roundw
      case rel => exact ⟨i + 1, by go_num, HLT.out, (HM.out.put HLT.out _).next rfl⟩
      case measure => have := HLT.out; simp [intOf]; omega
    · obtain rfl : i = m := by omega
      have d1 : decide (i < i) = false := decide_eq_false (by omega)
      have d1' : decide ((i : Int) < (i : Int)) = false := decide_eq_false (by omega)
      clear hM
      go_wp2_with fail
      go_ret
      exact HM.out.done
set_option maxRecDepth 100000 in
theorem Ite_tab (f g h : Tb) (A1 A2 A3 : Option Addr) (c1 c2 c3 : Nat) (w : World) (h1 : Src w A1 f.length c1 1 (f.map Value.bool)) (h2 : Src w A2 f.length c2 1 (g.map Value.bool)) (h3 : Src w A3 f.length c3 1 (h.map Value.bool)) (hl : f.length ≤ 64) (hg : g.length = f.length) (hh : h.length = f.length) :
    Calls Tryz.prog 31 #[.slice A1 f.length c1, .slice A2 f.length c2, .slice A3 f.length c3] w (RowOut (iteR f g h) w) := by
  obtain ⟨i1, hi1, iz1, is1, ib1⟩ := info_at infoB
  have H1 := hide h1
  have H2 := hide h2
  have H3 := hide h3
  have HG := hide hg
  have HH := hide hh
  unfold iteR
  have HF := hide (fun i => show (fun i => if f.getD i false = true then g.getD i false else h.getD i false) i = if f.getD i false = true then g.getD i false else h.getD i false from rfl)
  generalize (fun i => if f.getD i false = true then g.getD i false else h.getD i false) = fn at *
  clear h1 h2 h3 hg hh
  go_enter Tryz.func31, Tryz.ntmps31
  go_wp2_with (at_make; (refine wpList_make_full _ rfl _ _ 32 rfl w.heap.size 4 i1 (.bool false) 1 Tryz.underlying32 hi1 iz1 is1 .i64 .i64 f.length f.length f.length rfl rfl rfl rfl ?b2 ?b3 (Nat.le_refl _) ?_))
  case b2 => rw [ib1]; omega
  case b3 => unfold maxLen; omega
  intro w3 hown hgr
  rw [toList_madeCells_one] at hown
  have hrow := brow_own (l := List.replicate f.length false) hown (by simp)
  have HM0 := hide (Mk5.start (f := fn) ((Below.refl w.heap.size w).grown hgr (Nat.le_refl _) (fun k hk => by cases hk)) (Nat.le_refl _) hrow)
  clear hown hgr hrow
  go_wp2_with fail
  generalize hgg : w.heap.size = q at *
  clear hgg
  go_loopw [8] (fun j wr => ∃ i : Nat, j = .int .i64 i ∧ i ≤ f.length ∧ Mk5 w wr q f.length fn i) (fun j _ => f.length - (intOf j).toNat)
  case atStart => exact ⟨0, rfl, Nat.zero_le _, HM0.out⟩
  case round =>
    clear HM0
    obtain ⟨i, rfl, hi, hM⟩ := hrel
    have HM := hide hM
    rcases Nat.lt_or_ge i f.length with hlt | hge
    · have d1 : decide (i < f.length) = true := decide_eq_true hlt
      have d1' : decide ((i : Int) < (f.length : Int)) = true := decide_eq_true (by omega)
      have d2 : ((i : Int) < (f.length : Int)) := by omega
      obtain ⟨x, hx⟩ : ∃ x, f[i]? = some x := ⟨_, List.getElem?_eq_getElem hlt⟩
      obtain ⟨y, hy⟩ : ∃ y, g[i]? = some y := ⟨_, List.getElem?_eq_getElem (by have := HG.out; omega)⟩
      obtain ⟨z, hz⟩ : ∃ z, h[i]? = some z := ⟨_, List.getElem?_eq_getElem (by have := HH.out; omega)⟩
      have HFI := hide (show fn i = if x = true then y else z from by rw [HF.out, List.getD_eq_getElem?_getD, List.getD_eq_getElem?_getD, List.getD_eq_getElem?_getD, hx, hy, hz]; rfl)
      have HP := hide (hM.put hlt z)
      have hbz := HP.out.b
      obtain ⟨a3, rfl, z0⟩ := srcB_at (H3.out.below hM.b) hz
      obtain ⟨a1, rfl, x0⟩ := srcB_at (H1.out.below hbz) hx
      obtain ⟨a2, rfl, y0⟩ := srcB_at (H2.out.below hbz) hy
      have cr := hM.cell hlt
      have fr := hM.row.frozen i
      have cr2 := HP.out.cell
      have fr2 := HP.out.row.frozen i
      have HLT := hide hlt
      clear hM hlt hbz hx hy hz
      cases x
      · go_wp2_with fail
        go_roundw
        case rel => exact ⟨i + 1, by go_num, HLT.out, HP.out.next (by rw [HFI.out]; rfl)⟩
        case measure => have := HLT.out; simp [intOf]; omega
      · go_wp2_with fail
        go_roundw
        case rel => exact ⟨i + 1, by go_num, HLT.out, (HP.out.put y).next (by rw [HFI.out]; rfl)⟩
        case measure => have := HLT.out; simp [intOf]; omega
    · obtain rfl : i = f.length := by omega
      have d1 : decide (f.length < f.length) = false := decide_eq_false (by omega)
      have d1' : decide ((f.length : Int) < (f.length : Int)) = false := decide_eq_false (by omega)
      clear hM
      go_wp2_with fail
      go_ret
      exact HM.out.done
set_option maxRecDepth 100000 in
theorem Restrict_tab (n : Nat) (f : Tb) (A1 : Option Addr) (c1 v : Nat) (b : Bool) (w : World) (h1 : Src w A1 f.length c1 1 (f.map Value.bool)) (hn : n ≤ 6) (hv : v < n) (hl : f.length = 2 ^ n) :
    Calls Tryz.prog 32 #[.int .i64 n, .slice A1 f.length c1, .int .i64 v, .bool b] w (RowOut (restR n f v b) w) := by
  obtain ⟨i1, hi1, iz1, is1, ib1⟩ := info_at infoB
  have hp := pow_le6 hn
  have H1 := hide h1
  have HST := hide (fun (i : Nat) (w' : World) (h : i < f.length) => set_any n i v b w' (by omega) hv (by omega))
  have HSL := hide (fun (i : Nat) (h : i < f.length) => show setR n i v b < f.length from by rw [hl]; exact setR_lt b hv (by omega))
  unfold restR
  have HF := hide (fun i => show (fun i => f.getD (setR n i v b) false) i = f.getD (setR n i v b) false from rfl)
  generalize (fun i => f.getD (setR n i v b) false) = fn at *
  have hl64 : f.length ≤ 64 := by omega
  clear h1 hn hv hl hp
  go_enter Tryz.func32, Tryz.ntmps32
  go_wp2_with (at_make; (refine wpList_make_full _ rfl _ _ 32 rfl w.heap.size 4 i1 (.bool false) 1 Tryz.underlying32 hi1 iz1 is1 .i64 .i64 f.length f.length f.length rfl rfl rfl rfl ?b2 ?b3 (Nat.le_refl _) ?_))
  case b2 => rw [ib1]; omega
  case b3 => unfold maxLen; omega
  intro w3 hown hgr
  rw [toList_madeCells_one] at hown
  have hrow := brow_own (l := List.replicate f.length false) hown (by simp)
  have HM0 := hide (Mk5.start (f := fn) ((Below.refl w.heap.size w).grown hgr (Nat.le_refl _) (fun k hk => by cases hk)) (Nat.le_refl _) hrow)
  clear hown hgr hrow
  go_wp2_with fail
  generalize hgg : w.heap.size = q at *
  clear hgg
  go_loopw [10] (fun j wr => ∃ i : Nat, j = .int .i64 i ∧ i ≤ f.length ∧ Mk5 w wr q f.length fn i) (fun j _ => f.length - (intOf j).toNat)
  case atStart => exact ⟨0, rfl, Nat.zero_le _, HM0.out⟩
  case round =>
    clear HM0
    obtain ⟨i, rfl, hi, hM⟩ := hrel
    have HM := hide hM
    rcases Nat.lt_or_ge i f.length with hlt | hge
    · have d1 : decide (i < f.length) = true := decide_eq_true hlt
      have d1' : decide ((i : Int) < (f.length : Int)) = true := decide_eq_true (by omega)
      have d2 : ((i : Int) < (f.length : Int)) := by omega
      have HS := hide (HST.out i wr hlt)
      have hs := HSL.out i hlt
      have HFI := hide (HF.out i)
      generalize setR n i v b = j at *
      have d3 : ((j : Int) < (f.length : Int)) := by omega
      obtain ⟨x, hx⟩ : ∃ x, f[j]? = some x := ⟨_, List.getElem?_eq_getElem hs⟩
      have HFX := hide (show fn i = x from by rw [HFI.out, List.getD_eq_getElem?_getD, hx]; rfl)
      obtain ⟨a1, rfl, x0⟩ := srcB_at (H1.out.below hM.b) hx
      have cr := hM.cell hlt
      have fr := hM.row.frozen i
      have HLT := hide hlt
      clear hM hlt hx HFI
      go_wp2_with fail
      refine HS.out.mono ?_
      rintro e w2 ⟨rfl, rfl⟩
      go_wp2_with fail
      go_roundw
      case rel => exact ⟨i + 1, by go_num, HLT.out, (HM.out.put HLT.out _).next HFX.out⟩
      case measure => have := HLT.out; simp [intOf]; omega
    · obtain rfl : i = f.length := by omega
      have d1 : decide (f.length < f.length) = false := decide_eq_false (by omega)
      have d1' : decide ((f.length : Int) < (f.length : Int)) = false := decide_eq_false (by omega)
      clear hM
      go_wp2_with fail
      go_ret
      exact HM.out.done
end Go.Proofs.YtgfjdkkfgclhjaaGreat.Bd
/- The document's tables, walked: Over, Rename. -/
namespace Go.Proofs.YtgfjdkkfgclhjaaGreat.Bd
open Go.RowKit Go.Proofs.YtgfjdkkfgclhjaaGreat Go.Proofs.YtgfjdkkfgclhjaaGreat.Lx Go.Maps

theorem ovR_next (n : Nat) (all : Bool) (f : Tb) {l : List Nat} {i x : Nat} (h : l[i]? = some x) : ovR n all f (l.take (i + 1)) = ovR1 n all (ovR n all f (l.take i)) x := by
  unfold ovR
  rw [List.take_add_one, h, List.foldl_append]
  rfl
theorem TbV.below {w w' : World} {v : Value} {T : Tb} (h : TbV w v T) (hb : Below w.heap.size w w') : TbV w' v T := by
  obtain ⟨g, e, hr⟩ := h
  exact ⟨g, e, hr.below hb⟩
abbrev TabOut (T : Tb) (w : World) (e : Ending) (w' : World) : Prop := ∃ v, e = .returned v ∧ TbV w' v T ∧ Below w.heap.size w w'
set_option maxHeartbeats 2000000 in
set_option maxRecDepth 100000 in
theorem Over_tab (n : Nat) (f : Tb) (g0 : Nat) (A2 : Option Addr) (c2 : Nat) (l : List Nat) (all : Bool) (w : World) (h1 : BRow w g0 f) (h2 : Src w A2 l.length c2 1 ((encL l).map encI)) (hn : n ≤ 6) (hl : f.length = 2 ^ n) (hx : ∀ x ∈ l, x < n) (hln : l.length ≤ maxLen) :
    Calls Tryz.prog 33 #[.int .i64 n, .slice (some ⟨g0, 0, none⟩) f.length f.length, .slice A2 l.length c2, .bool all] w (TabOut (ovR n all f l) w) := by
  obtain ⟨i1, hi1, iz1, is1, ib1⟩ := info_at infoB
  have hp := pow_le6 hn
  have HT0 := hide (show TbV w (.slice (some ⟨g0, 0, none⟩) f.length f.length) (ovR n all f (l.take 0)) from ⟨g0, rfl, h1⟩)
  have H2 := hide h2
  have HX := hide hx
  have HRS := hide (fun (g : Tb) (A : Option Addr) (c v : Nat) (b : Bool) (w' : World) (h : Src w' A g.length c 1 (g.map Value.bool)) (hv : v < n) (hg : g.length = f.length) => Restrict_tab n g A c v b w' h hn hv (by omega))
  have HLN := hide (fun i => ovR_len n all (l.take i) f)
  have hl64 : f.length ≤ 64 := by omega
  unfold maxLen at hln
  clear h1 h2 hx hn hl hp
  go_enter Tryz.func33, Tryz.ntmps33
  go_wp2_with fail
  go_loopw [1, 9, 10, 11, 12, 13] (fun ft j _ _ _ _ wr => ∃ (i : Nat), j = .int .i64 i ∧ i ≤ l.length ∧ Below w.heap.size w wr ∧ TbV wr ft (ovR n all f (l.take i))) (fun _ j _ _ _ _ _ => l.length - (intOf j).toNat)
  case atStart => exact ⟨0, rfl, Nat.zero_le _, Below.refl _ _, HT0.out⟩
  case round =>
    clear HT0
    obtain ⟨i, rfl, hi, hb, hT⟩ := hrel
    rcases Nat.lt_or_ge i l.length with hlt | hge
    · have d1 : decide (i < l.length) = true := decide_eq_true hlt
      have d1' : decide ((i : Int) < (l.length : Int)) = true := decide_eq_true (by omega)
      have d2 : ((i : Int) < (l.length : Int)) := by omega
      obtain ⟨x, hx⟩ : ∃ x, l[i]? = some x := ⟨_, List.getElem?_eq_getElem hlt⟩
      have HNX := hide (ovR_next n all f hx)
      have hxn := HX.out x (List.mem_of_getElem? hx)
      have hfl := HLN.out i
      obtain ⟨gF, rfl, hrF⟩ := hT
      have hs := hrF.src
      generalize ovR n all f (l.take i) = F at *
      have hF64 : F.length ≤ 64 := by omega
      obtain ⟨a2, rfl, x0⟩ := src_at (H2.out.below hb) (i := i) (x := (x : Int)) (by unfold encL; rw [List.getElem?_map, hx]; rfl)
      have HR1 := hide (HRS.out F _ _ x false wr hs hxn hfl)
      have HFL := hide hfl
      clear hfl
      have HSF := hide hs
      clear hrF
      have HB := hide hb
      have HLT := hide hlt
      have HHX := hide hx
      clear hs hb hlt hx
      go_wp2_with fail
      with_reducible refine HR1.out.mono ?_
      rintro e w1 ⟨g1, rfl, hg1, hr1, hb1⟩
      rw [show (restR n F x false).length = F.length from rest_len n F x false]
      have HG1 := hide hr1
      have HB1 := hide (below_wide HB.out hb1)
      have hsz1 := hb1.size
      have HSF1 := hide (HSF.out.below hb1)
      have HR2 := hide (HRS.out F _ _ x true w1 HSF1.out hxn HFL.out)
      obtain ⟨a2', e', x1⟩ := src_at (H2.out.below HB1.out) (i := i) (x := (x : Int)) (by unfold encL; rw [List.getElem?_map, HHX.out]; rfl)
      cases e'
      clear hg1 hr1 hb1 HR1 x0
      go_wp2_with fail
      with_reducible refine HR2.out.mono ?_
      rintro e w2 ⟨g2, rfl, hg2, hr2, hb2⟩
      rw [show (restR n F x true).length = F.length from rest_len n F x true]
      have HG2 := hide hr2
      have HG1' := hide (HG1.out.below hb2)
      have HB2 := hide (below_wide HB1.out hb2)
      clear hg2 hr2 hb2 HR2 x1 HG1
      go_wp2_with (at_make; (refine wpList_make_full _ rfl _ _ 32 rfl w2.heap.size 4 i1 (.bool false) 1 Tryz.underlying32 hi1 iz1 is1 .i64 .i64 F.length F.length F.length rfl rfl rfl rfl ?b2 ?b3 (Nat.le_refl _) ?_))
      case b2 => rw [ib1]; omega
      case b3 => unfold maxLen; omega
      intro w3 hown hgr
      rw [toList_madeCells_one] at hown
      have hrow := brow_own (l := List.replicate F.length false) hown (by simp)
      have hb3 : Below w2.heap.size w2 w3 := (Below.refl w2.heap.size w2).grown hgr (Nat.le_refl _) (fun k hk => by cases hk)
      have HF := hide (fun k => show (fun k => jn all ((restR n F x false).getD k false) ((restR n F x true).getD k false)) k = jn all ((restR n F x false).getD k false) ((restR n F x true).getD k false) from rfl)
      have HOV := hide (show ovR1 n all F x = ofR F.length (fun k => jn all ((restR n F x false).getD k false) ((restR n F x true).getD k false)) from rfl)
      generalize (fun k => jn all ((restR n F x false).getD k false) ((restR n F x true).getD k false)) = fn at *
      have HM0 := hide (Mk5.start (f := fn) hb3 (Nat.le_refl _) hrow)
      have hsz2 := HB2.out.size
      have hg2l := HG2.out.lt
      have hg1l := HG1'.out.lt
      clear hown hgr hrow hb3
      go_wp2_with fail
      generalize hgg : w2.heap.size = q at *
      go_loopw [13] (fun j wr => ∃ k : Nat, j = .int .i64 k ∧ k ≤ F.length ∧ Mk5 w2 wr q F.length fn k) (fun j _ => F.length - (intOf j).toNat)
      case atStart => exact ⟨0, rfl, Nat.zero_le _, HM0.out⟩
      case round =>
        clear HM0
        obtain ⟨k, rfl, hk, hM⟩ := hrel
        have HM := hide hM
        rcases Nat.lt_or_ge k F.length with hkl | hkg
        · have e1 : decide (k < F.length) = true := decide_eq_true hkl
          have e1' : decide ((k : Int) < (F.length : Int)) = true := decide_eq_true (by omega)
          have e2 : ((k : Int) < (F.length : Int)) := by omega
          obtain ⟨u, hu⟩ : ∃ u, (restR n F x false)[k]? = some u := ⟨_, List.getElem?_eq_getElem (by rw [rest_len]; exact hkl)⟩
          obtain ⟨v, hv⟩ : ∃ v, (restR n F x true)[k]? = some v := ⟨_, List.getElem?_eq_getElem (by rw [rest_len]; exact hkl)⟩
          have HFK := hide (show fn k = jn all u v from by rw [HF.out, List.getD_eq_getElem?_getD, List.getD_eq_getElem?_getD, hu, hv]; rfl)
          have u0 := (HG1'.out.below hM.b).cell hu
          have v0 := (HG2.out.below hM.b).cell hv
          have cr := hM.cell hkl
          have fr := hM.row.frozen k
          have HKL := hide hkl
          clear hM hkl hu hv
          cases u <;> cases v <;> cases all
          all_goals (
            go_wp2_with fail
            go_roundw
            case rel => exact ⟨k + 1, by go_num, HKL.out, (HM.out.put HKL.out _).next (by rw [HFK.out]; rfl)⟩
            case measure => have := HKL.out; simp [intOf]; omega)
        · obtain rfl : k = F.length := by omega
          have e1 : decide (F.length < F.length) = false := decide_eq_false (by omega)
          have e1' : decide ((F.length : Int) < (F.length : Int)) = false := decide_eq_false (by omega)
          obtain ⟨g, e3, hgs, hrw, hbb⟩ := hM.done
          obtain rfl : q = g := by injection e3 with e; injection e with e; injection e with e; injection e
          have HFIN := hide (And.intro (below_wide HB2.out hbb) (show TbV wr (.slice (some ⟨q, 0, none⟩) (ofR F.length fn).length (ofR F.length fn).length) (ofR F.length fn) from ⟨q, rfl, hrw⟩))
          rw [← HOV.out, ← HNX.out] at HFIN
          have hlx : (ovR n all f (l.take (i + 1))).length = F.length := by rw [HLN.out, HFL.out]
          rw [hlx] at HFIN
          clear hM hrw hbb hgs
          go_wp2_with fail
          go_roundw
          case rel => exact ⟨i + 1, by go_num, HLT.out, HFIN.out.1, HFIN.out.2⟩
          case measure => have := HLT.out; simp [intOf]; omega
    · obtain rfl : i = l.length := by omega
      have d1 : decide (l.length < l.length) = false := decide_eq_false (by omega)
      have d1' : decide ((l.length : Int) < (l.length : Int)) = false := decide_eq_false (by omega)
      rw [List.take_length] at hT
      obtain ⟨gF, rfl, hrF⟩ := hT
      have HFIN := hide (show TabOut (ovR n all f l) w (.returned (.slice (some ⟨gF, 0, none⟩) (ovR n all f l).length (ovR n all f l).length)) wr from ⟨_, rfl, ⟨gF, rfl, hrF⟩, hb⟩)
      clear hrF hb
      go_wp2_with fail
      go_ret
      exact HFIN.out
end Go.Proofs.YtgfjdkkfgclhjaaGreat.Bd
/- The document's tables, walked: Rename. -/
namespace Go.Proofs.YtgfjdkkfgclhjaaGreat.Bd
open Go.RowKit Go.Proofs.YtgfjdkkfgclhjaaGreat Go.Proofs.YtgfjdkkfgclhjaaGreat.Lx Go.Maps

theorem renRow_app (n i : Nat) : ∀ (a b : List (Nat × Nat)) (r : Nat), renRow n i (a ++ b) r = renRow n i b (renRow n i a r)
  | [], _, _ => rfl
  | p :: a, b, r => renRow_app n i a b _
theorem renRow_next {n i k r : Nat} {l1 l2 : List Nat} {x y : Nat} (h1 : l1[k]? = some x) (h2 : l2[k]? = some y) : renRow n i ((l1.zip l2).take (k + 1)) r = setR n (renRow n i ((l1.zip l2).take k) r) x (rowB n i y) := by
  have h : (l1.zip l2)[k]? = some (x, y) := List.getElem?_zip_eq_some.2 ⟨h1, h2⟩
  rw [List.take_add_one, h, renRow_app]
  rfl
set_option maxHeartbeats 2000000 in
set_option maxRecDepth 100000 in
theorem Rename_tab (n : Nat) (f : Tb) (A1 A2 A3 : Option Addr) (c1 c2 c3 : Nat) (l1 l2 : List Nat) (w : World) (h1 : Src w A1 f.length c1 1 (f.map Value.bool)) (h2 : Src w A2 l1.length c2 1 ((encL l1).map encI)) (h3 : Src w A3 l2.length c3 1 ((encL l2).map encI)) (hn : n ≤ 6) (hl : f.length = 2 ^ n) (he : l1.length = l2.length) (hx1 : ∀ x ∈ l1, x < n) (hx2 : ∀ x ∈ l2, x < n) (hln : l1.length ≤ 1000000) :
    Calls Tryz.prog 34 #[.int .i64 n, .slice A1 f.length c1, .slice A2 l1.length c2, .slice A3 l2.length c3] w (RowOut (renR n f (l1.zip l2)) w) := by
  obtain ⟨i1, hi1, iz1, is1, ib1⟩ := info_at infoB
  have hp := pow_le6 hn
  have H1 := hide h1
  have H2 := hide h2
  have H3 := hide h3
  have HX1 := hide hx1
  have HX2 := hide hx2
  have HE := hide he
  have HN := hide (show ∀ (i k : Nat), i < f.length → renRow n i ((l1.zip l2).take k) i < f.length from fun i k hi => by
    rw [hl] at hi ⊢
    exact renRow_lt _ _ (fun p hp => by
      have := List.of_mem_zip (List.mem_of_mem_take hp)
      exact hx1 _ this.1) hi)
  have HBT := hide (fun (i y : Nat) (w' : World) (hi : i < f.length) (hy : y < n) => bit_any n i y w' (by omega) hy (by omega))
  have HST := hide (fun (r x : Nat) (b : Bool) (w' : World) (hr : r < f.length) (hx : x < n) => set_any n r x b w' (by omega) hx (by omega))
  have HF := hide (fun i => show (fun i => f.getD (renRow n i (l1.zip l2) i) false) i = f.getD (renRow n i (l1.zip l2) i) false from rfl)
  unfold renR
  generalize (fun i => f.getD (renRow n i (l1.zip l2) i) false) = fn at *
  have hl64 : f.length ≤ 64 := by omega
  have hln2 : l2.length ≤ 1000000 := by omega
  clear h1 h2 h3 hx1 hx2 hl hp he
  go_enter Tryz.func34, Tryz.ntmps34
  go_wp2_with (at_make; (refine wpList_make_full _ rfl _ _ 32 rfl w.heap.size 4 i1 (.bool false) 1 Tryz.underlying32 hi1 iz1 is1 .i64 .i64 f.length f.length f.length rfl rfl rfl rfl ?b2 ?b3 (Nat.le_refl _) ?_))
  case b2 => rw [ib1]; omega
  case b3 => unfold maxLen; omega
  intro w3 hown hgr
  rw [toList_madeCells_one] at hown
  have hrow := brow_own (l := List.replicate f.length false) hown (by simp)
  have HM0 := hide (Mk5.start (f := fn) ((Below.refl w.heap.size w).grown hgr (Nat.le_refl _) (fun k hk => by cases hk)) (Nat.le_refl _) hrow)
  clear hown hgr hrow
  go_wp2_with fail
  generalize hgg : w.heap.size = q at *
  clear hgg
  go_loopw [10, 11, 12] (fun j _ _ wr => ∃ i : Nat, j = .int .i64 i ∧ i ≤ f.length ∧ Mk5 w wr q f.length fn i) (fun j _ _ _ => f.length - (intOf j).toNat)
  case atStart => exact ⟨0, rfl, Nat.zero_le _, HM0.out⟩
  case round =>
    clear HM0
    obtain ⟨i, rfl, hi, hM⟩ := hrel
    have HM := hide hM
    rcases Nat.lt_or_ge i f.length with hlt | hge
    · have d1 : decide (i < f.length) = true := decide_eq_true hlt
      have d1' : decide ((i : Int) < (f.length : Int)) = true := decide_eq_true (by omega)
      have d2 : ((i : Int) < (f.length : Int)) := by omega
      have HLT := hide hlt
      clear hM hlt
      go_wp2_with fail
      go_loopw [11, 12] (fun r j wq => ∃ k : Nat, r = .int .i64 (renRow n i ((l1.zip l2).take k) i : Nat) ∧ j = .int .i64 k ∧ k ≤ l1.length ∧ Mk5 w wq q f.length fn i) (fun _ j _ => l1.length - (intOf j).toNat)
      case atStart => exact ⟨0, rfl, rfl, Nat.zero_le _, HM.out⟩
      case round =>
        clear HM
        obtain ⟨k, rfl, rfl, hk, hM⟩ := hrel
        have HM := hide hM
        rcases Nat.lt_or_ge k l1.length with hkl | hkg
        · have e1 : decide (k < l1.length) = true := decide_eq_true hkl
          have e1' : decide ((k : Int) < (l1.length : Int)) = true := decide_eq_true (by omega)
          have e2 : ((k : Int) < (l1.length : Int)) := by omega
          have e3 : ((k : Int) < (l2.length : Int)) := by have := HE.out; omega
          obtain ⟨x, hx⟩ : ∃ x, l1[k]? = some x := ⟨_, List.getElem?_eq_getElem hkl⟩
          obtain ⟨y, hy⟩ : ∃ y, l2[k]? = some y := ⟨_, List.getElem?_eq_getElem (by have := HE.out; omega)⟩
          have HNX := hide (renRow_next (n := n) (i := i) (r := i) hx hy)
          have hrl := HN.out i k HLT.out
          obtain ⟨a2, rfl, x0⟩ := src_at (H2.out.below hM.b) (i := k) (x := (x : Int)) (by unfold encL; rw [List.getElem?_map, hx]; rfl)
          obtain ⟨a3, rfl, y0⟩ := src_at (H3.out.below hM.b) (i := k) (x := (y : Int)) (by unfold encL; rw [List.getElem?_map, hy]; rfl)
          have HB := hide (fun w' => HBT.out i y w' HLT.out (HX2.out y (List.mem_of_getElem? hy)))
          have HS := hide (fun w' b => HST.out _ x b w' hrl (HX1.out x (List.mem_of_getElem? hx)))
          generalize hr : renRow n i ((l1.zip l2).take k) i = r at *
          have HKL := hide hkl
          have x1 := lat_cell x0
          have y1 := lat_cell y0
          clear hM hkl hx hy hr
          go_wp2_with fail
          refine wp_region_lat (by kernel_rfl) (by kernel_rfl) ?_
          repeat (first | go_big_quiet_step ((first | (go_at_call 53; exact calls_lat_same ((HB.out _).mono fun _ _ h => ⟨h.1, h.2.symm⟩)) | (go_at_call 48; exact calls_lat_same ((HS.out _ _).mono fun _ _ h => ⟨h.1, h.2.symm⟩)))) | quiet_step ((first | (go_at_call 53; exact calls_lat_same ((HB.out _).mono fun _ _ h => ⟨h.1, h.2.symm⟩)) | (go_at_call 48; exact calls_lat_same ((HS.out _ _).mono fun _ _ h => ⟨h.1, h.2.symm⟩)))))
          refine wpQuiet_nil ?_
          intro _ hlat
          obtain ⟨wq, rfl⟩ := hlat
          go_wp2_with fail
          go_roundw
          case rel => exact ⟨k + 1, by rw [HNX.out], by go_num, HKL.out, HM.out.below (lat_below _ _)⟩
          case measure => have := HKL.out; simp [intOf]; omega
        · obtain rfl : k = l1.length := by omega
          have e1 : decide (l1.length < l1.length) = false := decide_eq_false (by omega)
          have e1' : decide ((l1.length : Int) < (l1.length : Int)) = false := decide_eq_false (by omega)
          have hz : (l1.zip l2).take l1.length = l1.zip l2 := List.take_of_length_le (by rw [List.length_zip]; omega)
          have hrl := HN.out i l1.length HLT.out
          rw [hz] at hrl
          rw [hz]
          have HFI := hide (HF.out i)
          generalize renRow n i (l1.zip l2) i = r at *
          have d3 : ((r : Int) < (f.length : Int)) := by omega
          obtain ⟨x, hx⟩ : ∃ x, f[r]? = some x := ⟨_, List.getElem?_eq_getElem hrl⟩
          have HFX := hide (show fn i = x from by rw [HFI.out, List.getD_eq_getElem?_getD, hx]; rfl)
          obtain ⟨a1, rfl, x0⟩ := srcB_at (H1.out.below hM.b) hx
          have cr := hM.cell HLT.out
          have fr := hM.row.frozen i
          clear hM hx HFI hz
          go_wp2_with fail
          go_roundw
          case rel => exact ⟨i + 1, by go_num, HLT.out, (HM.out.put HLT.out _).next HFX.out⟩
          case measure => have := HLT.out; simp [intOf]; omega
    · obtain rfl : i = f.length := by omega
      have d1 : decide (f.length < f.length) = false := decide_eq_false (by omega)
      have d1' : decide ((f.length : Int) < (f.length : Int)) = false := decide_eq_false (by omega)
      clear hM
      go_wp2_with fail
      go_ret
      exact HM.out.done
end Go.Proofs.YtgfjdkkfgclhjaaGreat.Bd
/- The document's texts of tables, walked: Text, has. -/
namespace Go.Proofs.YtgfjdkkfgclhjaaGreat.Bd
open Go.RowKit Go.Proofs.YtgfjdkkfgclhjaaGreat Go.Proofs.YtgfjdkkfgclhjaaGreat.Lx Go.Maps

/-- a block of cells of a type -/
def VRow (t : TypeId) (w : World) (g : Nat) (l : List Value) : Prop := ∃ cur : Array Value, w.heap[g]? = some (.cells cur t (0, 0)) ∧ ∀ (j : Nat) (u : Value), l[j]? = some u → cur[j]? = some u
section
variable {t : TypeId} {w w' w0 wr : World} {g m i : Nat} {l : List Value} {f : Nat → Value} {z c d : Value}
theorem VRow.cell (h : VRow t w g l) {j : Nat} {u : Value} (hj : l[j]? = some u) : w.cell? ⟨g, j, none⟩ = some u := by
  obtain ⟨cur, h1, h2⟩ := h
  exact cell_heap h1 (h2 j u hj)
theorem VRow.frozen (h : VRow t w g l) (j : Nat) : w.frozen? ⟨g, j, none⟩ = false := by
  obtain ⟨cur, h1, h2⟩ := h
  exact frozen_heap h1
theorem VRow.put (h : VRow t w g l) {x : Nat} {c : Value} (hx : x < l.length) : VRow t (w.setCell ⟨g, x, none⟩ c) g (l.set x c) := by
  obtain ⟨cur, h1, h2⟩ := h
  refine ⟨cur.setIfInBounds x c, heap_set h1, fun j b hj => ?_⟩
  rw [List.getElem?_set] at hj
  rw [Array.getElem?_setIfInBounds]
  have hlt : x < cur.size := by
    have := h2 x _ (List.getElem?_eq_getElem hx)
    rcases Nat.lt_or_ge x cur.size with h' | h'
    · exact h'
    · rw [Array.getElem?_eq_none h'] at this; cases this
  by_cases e : x = j
  · rw [if_pos e, if_pos hx] at hj
    cases hj
    rw [if_pos e, if_pos hlt]
  · rw [if_neg e] at hj
    rw [if_neg e]
    exact h2 j b hj
theorem VRow.below (h : VRow t w g l) (hb : Below w.heap.size w w') : VRow t w' g l := by
  obtain ⟨cur, h1, h2⟩ := h
  exact ⟨cur, heapB hb h1, h2⟩
theorem vrow_own {base n cap : Nat} (h : w.ownsRow base t 1 (.slice (some ⟨g, 0, none⟩) n cap) n l) : VRow t w g l := by
  rcases h.2 with ⟨h1, _⟩ | ⟨g', cap', cur, h1, _, h3, _, _, _, h5⟩
  · cases h1
  · injection h1 with h1
    injection h1 with h1
    injection h1 with h1
    subst h1
    refine ⟨cur, h3, fun j b hj => ?_⟩
    have e := hj
    rw [← h5] at e
    have := lt_of_some e
    rw [List.getElem?_take_of_lt (by simp at this; omega)] at e
    simpa using e
def ofV (m : Nat) (f : Nat → Value) : List Value := (List.range m).map f
theorem ofV_len (m : Nat) (f : Nat → Value) : (ofV m f).length = m := by simp [ofV]
structure MkV (t : TypeId) (z : Value) (w0 wr : World) (g m : Nat) (f : Nat → Value) (i : Nat) : Prop where
  b : Below w0.heap.size w0 wr
  ge : w0.heap.size ≤ g
  row : VRow t wr g (ofV i f ++ List.replicate (m - i) z)
structure PuV (t : TypeId) (z : Value) (w0 wr : World) (g m : Nat) (f : Nat → Value) (i : Nat) (c : Value) : Prop where
  b : Below w0.heap.size w0 wr
  ge : w0.heap.size ≤ g
  row : VRow t wr g ((ofV i f ++ [c]) ++ List.replicate (m - i - 1) z)
theorem MkV.cell (h : MkV t z w0 wr g m f i) (hi : i < m) : wr.cell? ⟨g, i, none⟩ = some z := h.row.cell (by
  rw [List.getElem?_append_right (by rw [ofV_len]; exact Nat.le_refl _), ofV_len, Nat.sub_self, List.getElem?_replicate, if_pos (by omega)])
theorem MkV.put (h : MkV t z w0 wr g m f i) (hi : i < m) (c : Value) : PuV t z w0 (wr.setCell ⟨g, i, none⟩ c) g m f i c := by
  refine ⟨h.b.setCell h.ge _, h.ge, ?_⟩
  have h1 := h.row.put (x := i) (c := c) (by simp [ofV_len]; omega)
  obtain ⟨q, hq⟩ : ∃ q, m - i = q + 1 := ⟨m - i - 1, by omega⟩
  rw [List.set_append_right _ _ (by rw [ofV_len]; exact Nat.le_refl _), ofV_len, Nat.sub_self, hq, List.replicate_succ] at h1
  rw [hq, List.append_assoc]
  exact h1
theorem PuV.cell (h : PuV t z w0 wr g m f i c) : wr.cell? ⟨g, i, none⟩ = some c := h.row.cell (by
  rw [List.append_assoc, List.getElem?_append_right (by rw [ofV_len]; exact Nat.le_refl _), ofV_len, Nat.sub_self]; rfl)
theorem PuV.put (h : PuV t z w0 wr g m f i c) (d : Value) : PuV t z w0 (wr.setCell ⟨g, i, none⟩ d) g m f i d := by
  refine ⟨h.b.setCell h.ge _, h.ge, ?_⟩
  have h1 := h.row.put (x := i) (c := d) (by simp [ofV_len])
  rw [List.append_assoc, List.set_append_right _ _ (by rw [ofV_len]; exact Nat.le_refl _), ofV_len, Nat.sub_self] at h1
  rw [List.append_assoc]
  exact h1
theorem PuV.next (h : PuV t z w0 wr g m f i c) (hc : f i = c) : MkV t z w0 wr g m f (i + 1) := by
  refine ⟨h.b, h.ge, ?_⟩
  have : ofV (i + 1) f = ofV i f ++ [c] := by unfold ofV; rw [List.range_succ, List.map_append, ← hc]; rfl
  rw [this, show m - (i + 1) = m - i - 1 by omega]
  exact h.row
theorem MkV.done (h : MkV t z w0 wr g m f m) : VRow t wr g (ofV m f) := by
  have := h.row
  rw [Nat.sub_self] at this
  simpa using this
end
theorem infoU8 : (Tryz.prog.info? 5).map (fun i => (i.zero, i.size, i.bytes)) = some (some (.int .u8 0), 1, 1) := by kernel_rfl
theorem txt_nums (T : Tb) : txt T = strOfNums (T.map fun b => if b = true then (49 : Int) else 48) := by
  unfold txt strOfNums
  rw [List.map_map]
  congr 2
  apply List.map_congr_left
  intro b _
  cases b <;> rfl
set_option maxRecDepth 100000 in
theorem Text_any (f : Tb) (A1 : Option Addr) (c1 : Nat) (w : World) (h1 : Src w A1 f.length c1 1 (f.map Value.bool)) (hl : f.length ≤ 64) :
    Calls Tryz.prog 49 #[.slice A1 f.length c1] w fun e w' => e = .returned (.string (txt f)) ∧ Below w.heap.size w w' := by
  obtain ⟨i1, hi1, iz1, is1, ib1⟩ := info_at infoU8
  have H1 := hide h1
  have HF := hide (fun (i : Nat) (x : Bool) (h : f[i]? = some x) => show (fun i => Value.int .u8 (if f.getD i false = true then 49 else 48)) i = Value.int .u8 (if x = true then 49 else 48) from by
    simp only [List.getD_eq_getElem?_getD, h, Option.getD_some])
  have HFV := hide (show ofV f.length (fun i => Value.int .u8 (if f.getD i false = true then 49 else 48)) = (f.map fun b => if b = true then (49 : Int) else 48).map (Value.int .u8) from by
    apply List.ext_getElem?
    intro j
    unfold ofV
    rw [List.map_map, List.getElem?_map, List.getElem?_map]
    by_cases hj : j < f.length
    · rw [List.getElem?_range hj, List.getElem?_eq_getElem hj]
      simp only [Option.map_some, Function.comp, List.getD_eq_getElem?_getD, List.getElem?_eq_getElem hj, Option.getD_some]
    · rw [List.getElem?_eq_none (by simp; omega), List.getElem?_eq_none (by omega)]
      rfl)
  generalize (fun i => Value.int .u8 (if f.getD i false = true then 49 else 48)) = fn at *
  clear h1
  go_enter Tryz.func49, Tryz.ntmps49
  go_wp2_with (at_make; (refine wpList_make_full _ rfl _ _ 114 rfl w.heap.size 5 i1 (.int .u8 0) 1 Tryz.underlying114 hi1 iz1 is1 .i64 .i64 f.length f.length f.length rfl rfl rfl rfl ?b2 ?b3 (Nat.le_refl _) ?_))
  case b2 => rw [ib1]; omega
  case b3 => unfold maxLen; omega
  intro w3 hown hgr
  rw [toList_madeCells_one] at hown
  have hrow := vrow_own hown
  have HM0 := hide (show MkV 5 (.int .u8 0) w w3 w.heap.size f.length fn 0 from ⟨(Below.refl w.heap.size w).grown hgr (Nat.le_refl _) (fun k hk => by cases hk), Nat.le_refl _, hrow⟩)
  clear hown hgr hrow
  go_wp2_with fail
  generalize hgg : w.heap.size = q at *
  go_loopw [4] (fun j wr => ∃ i : Nat, j = .int .i64 i ∧ i ≤ f.length ∧ MkV 5 (.int .u8 0) w wr q f.length fn i) (fun j _ => f.length - (intOf j).toNat)
  case atStart => exact ⟨0, rfl, Nat.zero_le _, HM0.out⟩
  case round =>
    clear HM0
    obtain ⟨i, rfl, hi, hM⟩ := hrel
    have HM := hide hM
    rcases Nat.lt_or_ge i f.length with hlt | hge
    · have d1 : decide (i < f.length) = true := decide_eq_true hlt
      have d1' : decide ((i : Int) < (f.length : Int)) = true := decide_eq_true (by omega)
      have d2 : ((i : Int) < (f.length : Int)) := by omega
      obtain ⟨x, hx⟩ : ∃ x, f[i]? = some x := ⟨_, List.getElem?_eq_getElem hlt⟩
      have HFI := hide (HF.out i x hx)
      have HP := hide (hM.put hlt (.int .u8 48))
      have hbz := HP.out.b
      obtain ⟨a1, rfl, x0⟩ := srcB_at (H1.out.below hbz) hx
      have cr := hM.cell hlt
      have fr := hM.row.frozen i
      have cr2 := HP.out.cell
      have fr2 := HP.out.row.frozen i
      have HLT := hide hlt
      clear hM hlt hbz hx
      cases x
      · go_wp2_with fail
        go_roundw
        case rel => exact ⟨i + 1, by go_num, HLT.out, HP.out.next (by rw [HFI.out]; rfl)⟩
        case measure => have := HLT.out; simp [intOf]; omega
      · go_wp2_with fail
        go_roundw
        case rel => exact ⟨i + 1, by go_num, HLT.out, (HP.out.put (.int .u8 49)).next (by rw [HFI.out]; rfl)⟩
        case measure => have := HLT.out; simp [intOf]; omega
    · obtain rfl : i = f.length := by omega
      have d1 : decide (f.length < f.length) = false := decide_eq_false (by omega)
      have d1' : decide ((f.length : Int) < (f.length : Int)) = false := decide_eq_false (by omega)
      have hd := hM.done
      have HB := hide hM.b
      have hcv := run_convert_bytes_arg (P := Tryz.prog) wr 114 5 Tryz.underlying114 Tryz.underlying5 q 0 f.length f.length (f.map fun b => if b = true then (49 : Int) else 48) (by simp) (fun j hj => by
        rw [Nat.zero_add]
        refine hd.cell ?_
        rw [HFV.out, List.getElem?_map, List.getElem?_map, List.getElem?_eq_getElem hj, List.getD_eq_getElem?_getD, List.getElem?_map, List.getElem?_eq_getElem hj]
        rfl) 9 Tryz.underlying9
      rw [← txt_nums] at hcv
      clear hM hd
      go_wp2_with fail
      go_ret
      exact ⟨rfl, hgg ▸ HB.out⟩
end Go.Proofs.YtgfjdkkfgclhjaaGreat.Bd
/- What a caller of an arena holds: nodes that are functions; each call said of functions, where there is room. -/
namespace Go.Proofs.YtgfjdkkfgclhjaaGreat.Bd
open Go.RowKit Go.Proofs.YtgfjdkkfgclhjaaGreat Go.Proofs.YtgfjdkkfgclhjaaGreat.Lx Go.Maps

/-- a node that was given out, as a function over variables of S -/
def Nod (s : St) (f : Nat) (S : Nat → Bool) (F : Env → Bool) : Prop := s.gi f = true ∧ OkSem S F s.nd f
structure Live (w : World) (k : Blk) (s : St) : Prop where
  ar : Ar w k s
  ad : Adm s
  g0 : s.gi 0 = true
  g1 : s.gi 1 = true
structure Ext (s s' : St) : Prop where
  vs : s'.vs = s.vs
  ms : s'.ms = s.ms
  gi : ∀ x, s.gi x = true → s'.gi x = true
  nd : ∃ ex, s'.nd = s.nd ++ ex
theorem Ext.refl (s : St) : Ext s s := ⟨rfl, rfl, fun _ h => h, ⟨[], by simp⟩⟩
theorem Ext.trans {a b c : St} (h : Ext a b) (h2 : Ext b c) : Ext a c := by
  obtain ⟨e1, h1⟩ := h.nd
  obtain ⟨e2, h2'⟩ := h2.nd
  exact ⟨h2.vs.trans h.vs, h2.ms.trans h.ms, fun x hx => h2.gi x (h.gi x hx), ⟨e1 ++ e2, by rw [h2', h1, List.append_assoc]⟩⟩
theorem Nod.ext {s s' : St} {f : Nat} {S : Nat → Bool} {F : Env → Bool} (h : Nod s f S F) (E : Ext s s') : Nod s' f S F := by
  obtain ⟨g, t, d⟩ := h
  obtain ⟨ex, e⟩ := E.nd
  exact ⟨E.gi _ g, t, by rw [e]; exact d.append⟩
theorem Nod.mono {s : St} {f : Nat} {S S' : Nat → Bool} {F : Env → Bool} (h : Nod s f S F) (hs : ∀ x, S x = true → S' x = true) : Nod s f S' F := by
  obtain ⟨g, t, d⟩ := h
  exact ⟨g, t, d.mono hs⟩
theorem Live.below {w w' : World} {k : Blk} {s : St} (h : Live w k s) (hb : Below w.heap.size w w') : Live w' k s := ⟨h.ar.below hb, h.ad, h.g0, h.g1⟩
theorem Live.no {w : World} {k : Blk} {s : St} (h : Live w k s) (S : Nat → Bool) : Nod s 0 S (fun _ => false) := ⟨h.g0, 256, .zero⟩
theorem Live.yes {w : World} {k : Blk} {s : St} (h : Live w k s) (S : Nat → Bool) : Nod s 1 S (fun _ => true) := ⟨h.g1, 256, .one⟩
/-- two nodes of one function are one; and one is one function's alone -/
theorem Nod.eq {w : World} {k : Blk} {s : St} (h : Live w k s) {f g : Nat} {S S' : Nat → Bool} {F : Env → Bool} (a : Nod s f S F) (b : Nod s g S' F) : f = g := by
  obtain ⟨_, _, d⟩ := a
  obtain ⟨_, _, d'⟩ := b
  exact d.eq h.ar.wf.once d'
theorem Nod.fn {s : St} {f : Nat} {S S' : Nat → Bool} {F G : Env → Bool} (a : Nod s f S F) (b : Nod s f S' G) : F = G := by
  obtain ⟨_, _, d⟩ := a
  obtain ⟨_, _, d'⟩ := b
  exact (d.det2 d').2
def oneS (i : Nat) : Nat → Bool := fun x => decide (x = i)
/-- a variable -/
theorem Var_sem (k : Blk) (s : St) (i : Nat) (w : World) (L : Live w k s) (hi : i < s.vs) (hm : s.m + 3 ≤ 1000000000) :
    Calls Tryz.prog 54 #[.pointer (some ⟨k.p, 0, none⟩), .int .i64 i] w (ApiOut k s w 3 (OkSem (oneS i) (fun ρ => ρ i))) := by
  refine (var_any k s i w L.ar L.ad hi hm).mono ?_
  intro e w' ho
  refine ho.mono (Nat.le_refl _) (fun nd' r hex o => ?_)
  obtain ⟨t, _, d⟩ := o (oneS i) _ _ _ _ (by simp [oneS]) .zero .one
  refine ⟨t, ?_⟩
  have e : (fun ρ : Env => ρ i) = fun ρ => if ρ i then true else false := by funext ρ; cases ρ i <;> simp
  rw [e]; exact d
end Go.Proofs.YtgfjdkkfgclhjaaGreat.Bd
/- Each call of an arena, said of functions: where there is room, it answers a node. -/
namespace Go.Proofs.YtgfjdkkfgclhjaaGreat.Bd
open Go.RowKit Go.Proofs.YtgfjdkkfgclhjaaGreat Go.Proofs.YtgfjdkkfgclhjaaGreat.Lx Go.Maps

abbrev held (n : Nat) : Nat := 2 ^ (n - 3) + 255
abbrev walkR (n : Nat) : Nat := n * 2 ^ (n + 2) + 2
theorem pow_up (n : Nat) : 2 ^ (n + 1) ≤ 2 ^ (n + 2) := Nat.pow_le_pow_right (by omega) (by omega)
theorem walk_up {S : Nat → Bool} {n t : Nat} (hn : nS S 0 ≤ n) : nS S t * 2 ^ (nS S t + 2) + 2 ≤ walkR n := by
  have h1 := min_le S t
  have h2 : 2 ^ (nS S t + 2) ≤ 2 ^ (n + 2) := Nat.pow_le_pow_right (by omega) (by omega)
  have := Nat.mul_le_mul (show nS S t ≤ n by omega) h2
  unfold walkR
  omega
end Go.Proofs.YtgfjdkkfgclhjaaGreat.Bd
/- The document's rows of tables and of texts, walked: has, add. -/
namespace Go.Proofs.YtgfjdkkfgclhjaaGreat.Bd
open Go.RowKit Go.Proofs.YtgfjdkkfgclhjaaGreat Go.Proofs.YtgfjdkkfgclhjaaGreat.Lx Go.Maps

theorem srcW_at {w : World} {A : Option Addr} {m c : Nat} {l : List Value} (h : Src w A m c 1 l) {i : Nat} {x : Value} (hx : l[i]? = some x) : ∃ ad, A = some ad ∧ w.cell? (ad.add i) = some x := by
  rcases h.2 with ⟨_, h2, _⟩ | ⟨ad, h1, h2⟩
  · have := h.1
    have := lt_of_some hx
    omega
  · exact ⟨ad, h1, h2 i x hx⟩
abbrev encT (l : List Tb) : List Value := l.map fun t => .string (txt t)
theorem txt_beq (a b : Tb) : ((txt a).toList == (txt b).toList) = decide (a = b) := by
  by_cases h : a = b
  · subst h; simp
  · rw [decide_eq_false h, beq_eq_false_iff_ne]
    intro e
    apply h
    apply txt_inj
    rw [ByteArray.toList_eq, ByteArray.toList_eq] at e
    exact ByteArray.ext (Array.toList_inj.1 e)
set_option maxRecDepth 100000 in
theorem rhas_any (A : Option Addr) (c : Nat) (l : List Tb) (t : Tb) (w : World) (hS : Src w A l.length c 1 (encT l)) (hl : l.length ≤ 1000000000) :
    Calls Tryz.prog 50 #[.slice A l.length c, .string (txt t)] w fun e w' => e = .returned (.bool (decide (t ∈ l))) ∧ w' = w := by
  have HS := hide hS
  clear hS
  go_enter Tryz.func50, Tryz.ntmps50
  go_wp2_with fail
  go_loopw [5] (fun j wr => ∃ i : Nat, j = .int .i64 i ∧ i ≤ l.length ∧ wr = w ∧ t ∉ l.take i) (fun j _ => l.length - (intOf j).toNat)
  case atStart => exact ⟨0, rfl, Nat.zero_le _, rfl, by simp⟩
  case round =>
    obtain ⟨i, rfl, hi, rfl, hn⟩ := hrel
    have HN := hide hn
    clear hn
    rcases Nat.lt_or_ge i l.length with hlt | hge
    · have d1 : decide (i < l.length) = true := decide_eq_true hlt
      have d1' : decide ((i : Int) < l.length) = true := decide_eq_true (by omega)
      have d2 : ((i : Int) < l.length) := by omega
      obtain ⟨v, hv⟩ : ∃ v, l[i]? = some v := ⟨_, List.getElem?_eq_getElem hlt⟩
      obtain ⟨ad, rfl, cv⟩ := srcW_at HS.out (i := i) (x := .string (txt v)) (by rw [List.getElem?_map, hv]; rfl)
      have hb := txt_beq v t
      have HLT := hide hlt
      by_cases e : v = t
      · rw [decide_eq_true e] at hb
        have HE := hide (show decide (t ∈ l) = true from decide_eq_true (e ▸ List.mem_of_getElem? hv))
        clear hv e hlt
        go_wp2_with fail
        go_ret
        exact ⟨by rw [HE.out]; rfl, rfl⟩
      · rw [decide_eq_false e] at hb
        have HN2 := hide (show t ∉ l.take (i + 1) from by
          rw [List.take_add_one, hv]
          simp only [Option.toList_some, List.mem_append, List.mem_singleton, not_or]
          exact ⟨HN.out, fun h => e h.symm⟩)
        clear hv e hlt
        go_wp2_with fail
        go_roundw
        case rel => exact ⟨i + 1, by go_num, HLT.out, by first | rfl | trivial, HN2.out⟩
        case measure => have := HLT.out; simp [intOf]; omega
    · obtain rfl : i = l.length := by omega
      have d1 : decide (l.length < l.length) = false := decide_eq_false (by omega)
      have d1' : decide ((l.length : Int) < (l.length : Int)) = false := decide_eq_false (by omega)
      have hn := HN.out
      rw [List.take_length] at hn
      have HE := hide (decide_eq_false hn)
      clear hn hge hi
      go_wp2_with fail
      go_ret
      exact ⟨by rw [HE.out]; rfl, rfl⟩
/-! ### blocks of bools stay -/
theorem BRow.obj {w : World} {g : Nat} {T : Tb} (h : BRow w g T) : ∃ cur, w.heap[g]? = some (.cells cur 4 (0, 0)) := by
  obtain ⟨cur, h1, _⟩ := h
  exact ⟨cur, h1⟩
theorem BRow.same {w w' : World} {g : Nat} {T : Tb} (h : BRow w g T) (he : w'.heap[g]? = w.heap[g]?) : BRow w' g T := by
  obtain ⟨cur, h1, h2⟩ := h
  exact ⟨cur, he.trans h1, h2⟩
/-- what is a block of bools stays as it is -/
def Bools (w w' : World) : Prop := ∀ g T, BRow w g T → BRow w' g T
theorem Bools.refl (w : World) : Bools w w := fun _ _ h => h
theorem Bools.trans {a b c : World} (h : Bools a b) (h2 : Bools b c) : Bools a c := fun g T hr => h2 g T (h g T hr)
theorem Bools.below {w w' : World} (h : Below w.heap.size w w') : Bools w w' := fun _ _ hr => hr.below h
theorem Bools.grown {w w' : World} {row : Option Nat} (h : w.grownBy w' row) (hr : ∀ b, row = some b → ∃ cur t, w.heap[b]? = some (.cells cur t (0, 0)) ∧ t ≠ 4) : Bools w w' := fun g T hg => by
  refine hg.same (h.block g hg.lt (fun e => ?_))
  obtain ⟨cur, t, h1, h2⟩ := hr g e.symm
  obtain ⟨cur', h3⟩ := hg.obj
  rw [h3] at h1
  injection h1 with h1
  injection h1 with _ h1
  exact h2 h1.symm
theorem own_cells {w : World} {base size n : Nat} {t : TypeId} {v : Value} {xs : List Value} (h : w.ownsRow base t size v n xs) : ∀ b, v.ownBlock = some b → ∃ cur, w.heap[b]? = some (.cells cur t (0, 0)) := by
  intro b hb
  rcases h.2 with ⟨rfl, _⟩ | ⟨g, cap, cur, rfl, _, h3, _⟩
  · cases hb
  · injection hb with hb
    have : g = b := hb
    subst this
    exact ⟨cur, h3⟩
theorem Bools.own {w w' : World} {base size n : Nat} {t : TypeId} {v : Value} {xs : List Value} (h : w.ownsRow base t size v n xs) (ht : t ≠ 4) (hg : w.grownBy w' v.ownBlock) : Bools w w' :=
  Bools.grown hg (fun b hb => by
    obtain ⟨cur, h1⟩ := own_cells h b hb
    exact ⟨cur, t, h1, ht⟩)
theorem TbV.to {w w' : World} {v : Value} {T : Tb} (h : TbV w v T) (hb : Bools w w') : TbV w' v T := by
  obtain ⟨g, e, hr⟩ := h
  exact ⟨g, e, hb g T hr⟩
/-- tables, in memory -/
structure TsV (w : World) (vs : List Value) (ts : List Tb) : Prop where
  len : vs.length = ts.length
  at_ : ∀ (i : Nat) (v : Value) (t : Tb), vs[i]? = some v → ts[i]? = some t → TbV w v t
theorem TsV.to {w w' : World} {vs : List Value} {ts : List Tb} (h : TsV w vs ts) (hb : Bools w w') : TsV w' vs ts := ⟨h.len, fun i v t h1 h2 => (h.at_ i v t h1 h2).to hb⟩
theorem TsV.nil (w : World) : TsV w [] [] := ⟨rfl, fun i v t h => by simp at h⟩
theorem TsV.snoc {w : World} {vs : List Value} {ts : List Tb} {v : Value} {t : Tb} (h : TsV w vs ts) (hv : TbV w v t) : TsV w (vs ++ [v]) (ts ++ [t]) := by
  refine ⟨by simp [h.len], fun i x u h1 h2 => ?_⟩
  have hl := h.len
  by_cases hi : i < vs.length
  · rw [List.getElem?_append_left hi] at h1
    rw [List.getElem?_append_left (by omega)] at h2
    exact h.at_ i x u h1 h2
  · rw [List.getElem?_append_right (by omega)] at h1
    rw [List.getElem?_append_right (by omega)] at h2
    rw [hl] at h1
    generalize i - ts.length = j at *
    cases j with
    | zero => simp at h1 h2; subst h1; subst h2; exact hv
    | succ j => simp at h1
theorem TsV.get {w : World} {vs : List Value} {ts : List Tb} (h : TsV w vs ts) {i : Nat} (hi : i < ts.length) : ∃ g t, ts[i]? = some t ∧ vs[i]? = some (.slice (some ⟨g, 0, none⟩) t.length t.length) ∧ BRow w g t := by
  obtain ⟨g, e, hr⟩ := h.at_ i _ _ (List.getElem?_eq_getElem (by have := h.len; omega)) (List.getElem?_eq_getElem hi)
  exact ⟨g, _, List.getElem?_eq_getElem hi, by rw [List.getElem?_eq_getElem (by have := h.len; omega), e], hr⟩
theorem cell_one {w : World} (x : Value) (t : TypeId) : ∀ j u, [x][j]? = some u → (w.alloc (.cells #[x] t)).cell? ((⟨w.heap.size, 0, none⟩ : Addr).add j) = some u := by
  intro j u hj
  match j, hj with
  | 0, hj => simp at hj; subst hj; exact cell_heap (j := 0) (heap_new w _) rfl
  | j + 1, hj => simp at hj
theorem below_grow {w w1 w' : World} {row : Option Nat} (hb : Below w.heap.size w w1) (hg : w1.grownBy w' row) : w.grownBy w' row :=
  ⟨hg.os.trans hb.os, hg.tape.trans hb.tape, hg.output.trans hb.output, Nat.le_trans hb.size hg.size, fun k hk hne => (hg.block k (Nat.lt_of_lt_of_le hk hb.size) hne).trans (hb.block k hk)⟩
theorem infoTb : (Tryz.prog.info? 32).map (fun i => (i.zero, i.size, i.bytes)) = some (some (.slice none 0 0), 1, 24) := by kernel_rfl
/-- a row of tables, of one's own -/
structure TRow (base : Nat) (w : World) (V : Value) (ts : List Tb) (vs : List Value) : Prop where
  own : w.ownsRow base 32 1 V ts.length vs
  tv : TsV w vs ts
set_option maxHeartbeats 2000000 in
set_option maxRecDepth 100000 in
theorem radd_any (base : Nat) (A : Option Addr) (c : Nat) (ts : List Tb) (vs : List Value) (gf : Nat) (f : Tb) (w : World) (hr : TRow base w (.slice A ts.length c) ts vs) (hf : BRow w gf f) (hl : ∀ t ∈ ts, t.length ≤ 64) (hfl : f.length ≤ 64) (hn : ts.length ≤ 1000000) (hb : base ≤ w.heap.size) :
    Calls Tryz.prog 51 #[.slice A ts.length c, .slice (some ⟨gf, 0, none⟩) f.length f.length] w fun e w' => ∃ V' vs', e = .returned V' ∧ TRow base w' V' (addT ts f) vs' ∧ w.grownBy w' (Value.slice A ts.length c).ownBlock ∧ Bools w w' := by
  obtain ⟨ti, ht1, tz, tsz, tb⟩ := info_at infoTb
  have HR := hide hr
  have HF := hide hf
  have HL := hide hl
  have HSRC := hide (src_of_own hr.own)
  have HBB := hide hb
  clear hr hf hl hb
  go_enter Tryz.func51, Tryz.ntmps51
  go_wp2_with fail
  go_loopw [5] (fun j wr => ∃ i : Nat, j = .int .i64 i ∧ i ≤ ts.length ∧ Below w.heap.size w wr ∧ f ∉ ts.take i) (fun j _ => ts.length - (intOf j).toNat)
  case atStart => exact ⟨0, rfl, Nat.zero_le _, Below.refl _ _, by simp⟩
  case round =>
    obtain ⟨i, rfl, hi, hbe, hnot⟩ := hrel
    have HBE := hide hbe
    have HNO := hide hnot
    clear hnot
    rcases Nat.lt_or_ge i ts.length with hlt | hge
    · have d1 : decide (i < ts.length) = true := decide_eq_true hlt
      have d1' : decide ((i : Int) < ts.length) = true := decide_eq_true (by omega)
      have d2 : ((i : Int) < ts.length) := by omega
      obtain ⟨g, t, ht, hv, hrow⟩ := HR.out.tv.get hlt
      obtain ⟨ad, rfl, cv⟩ := srcW_at (HSRC.out.below hbe) hv
      have htl := HL.out t (List.mem_of_getElem? ht)
      have hrw := hrow.below hbe
      have hfw := HF.out.below hbe
      have HT1 := hide (Text_any t _ _ wr hrw.src htl)
      have HT2 := hide (fun w' (h : Below wr.heap.size wr w') => Text_any f _ _ w' (hfw.below h).src hfl)
      have hbq := txt_beq t f
      have HLT := hide hlt
      have HTT := hide ht
      clear hv hrow hrw hfw hbe hlt ht
      go_wp2_with fail
      with_reducible refine HT1.out.mono ?_
      rintro e w1 ⟨rfl, hb1⟩
      have HB1 := hide (below_wide HBE.out hb1)
      have HT3 := hide (HT2.out w1 hb1)
      clear hb1 HT2 HT1
      go_wp2_with fail
      with_reducible refine HT3.out.mono ?_
      rintro e w2 ⟨rfl, hb2⟩
      have HB2 := hide (below_wide HB1.out hb2)
      clear hb2 HT3
      by_cases e : t = f
      · rw [decide_eq_true e] at hbq
        have HIN := hide (show addT ts f = ts from if_pos (e ▸ List.mem_of_getElem? HTT.out))
        clear e
        go_wp2_with fail
        go_ret
        rw [HIN.out]
        exact ⟨_, vs, rfl, ⟨own_below HR.out.own HB2.out, HR.out.tv.to (Bools.below HB2.out)⟩, below_grown HB2.out _, Bools.below HB2.out⟩
      · rw [decide_eq_false e] at hbq
        have HN2 := hide (show f ∉ ts.take (i + 1) from by
          rw [List.take_add_one, HTT.out]
          simp only [Option.toList_some, List.mem_append, List.mem_singleton, not_or]
          exact ⟨HNO.out, fun h => e h.symm⟩)
        clear e
        go_wp2_with fail
        go_roundw
        case rel => exact ⟨i + 1, by go_num, HLT.out, HB2.out, HN2.out⟩
        case measure => have := HLT.out; simp [intOf]; omega
    · obtain rfl : i = ts.length := by omega
      have d1 : decide (ts.length < ts.length) = false := decide_eq_false (by omega)
      have d1' : decide ((ts.length : Int) < (ts.length : Int)) = false := decide_eq_false (by omega)
      have hno := HNO.out
      rw [List.take_length] at hno
      have HIN := hide (show addT ts f = ts ++ [f] from if_neg hno)
      have hbx := hbe.alloc hbe.size (.cells #[.slice (some ⟨gf, 0, none⟩) f.length f.length] 32)
      have HO := hide (own_below HR.out.own hbx)
      have HBX := hide hbx
      have hsz := hbe.size
      clear hno hge hi hbe HNO hbx
      go_wp2_with (at_builtin; go_must (refine wpList_append_own_at _ rfl (.tmp 21) (.tmp 23) 34 rfl base 32 ti _ 1 24 Tryz.underlying34 ht1 tz tsz tb rfl (by decide) _ ts.length vs rfl HO.out ⟨wr.heap.size, 0, none⟩ 1 1 [.slice (some ⟨gf, 0, none⟩) f.length f.length] rfl rfl (cell_one _ _) ?ones ?c63 ?cby ?cbase ?_))
      case ones => intro u hu; rw [List.mem_singleton.1 hu]; rfl
      case c63 => unfold maxLen; omega
      case cby => omega
      case cbase => have := HBB.out; simp; omega
      intro v' w' hown hgr _ hblk
      have hbo := Bools.own HO.out (by decide) hgr
      have hball := (Bools.below HBX.out).trans hbo
      have HEND := hide (show TRow base w' v' (ts ++ [f]) (vs ++ [.slice (some ⟨gf, 0, none⟩) f.length f.length]) ∧ w.grownBy w' (Value.slice A ts.length c).ownBlock ∧ Bools w w' from ⟨⟨by rw [List.length_append]; exact hown, (HR.out.tv.to hball).snoc ⟨gf, rfl, hball gf f HF.out⟩⟩, below_grow HBX.out hgr, hball⟩)
      clear hown hgr hbo hball
      go_wp2_with fail
      go_ret
      rw [HIN.out]
      exact ⟨v', _, rfl, HEND.out.1, HEND.out.2.1, HEND.out.2.2⟩
end Go.Proofs.YtgfjdkkfgclhjaaGreat.Bd
/- append onto a row of one's own: what an elder, shorter slice of the same row reads stays. -/
namespace Go.Proofs.YtgfjdkkfgclhjaaGreat.Bd
open Go.RowKit Go.Proofs.YtgfjdkkfgclhjaaGreat Go.Proofs.YtgfjdkkfgclhjaaGreat.Lx Go.Maps

theorem own_at {w : World} {base n c g : Nat} {t : TypeId} {xs : List Value} (h : w.ownsRow base t 1 (.slice (some ⟨g, 0, none⟩) n c) n xs) : base ≤ g ∧ ∃ cur, w.heap[g]? = some (Obj.cells cur t (0, 0)) ∧ n ≤ c ∧ c ≤ maxLen ∧ cur.size = c ∧ cur.toList.take n = xs := by
  rcases h.2 with ⟨h1, _⟩ | ⟨g', cap, cur, h1, h2, h3, h4, h5, h6, h7⟩
  · cases h1
  · injection h1 with h1 h1' h1''
    injection h1 with h1
    injection h1 with h1
    subst h1 h1''
    exact ⟨h2, cur, h3, h4, h5, by rw [h6, Nat.mul_one], by rw [Nat.mul_one] at h7; exact h7⟩
theorem append_held {Pg : Program} {w : World} {t ty e : TypeId} {i : TypeInfo} {z : Value} {bytes : Nat} (ht : Pg.underlying t = some (.slice e)) (hi : Pg.info? e = some i) (hz : i.zero = some z) (hs1 : i.size = 1) (hby : i.bytes = bytes)
    {base g n cap : Nat} {xs : List Value} (hown : w.ownsRow base e 1 (.slice (some ⟨g, 0, none⟩) n cap) n xs) {ad : Addr} {c : Nat} {u : Value} (hnews : w.cell? ad = some u) (h1 : u.oneCell' = true) (h63 : n + 1 ≤ maxLen) (hbytes : (n + 1) * bytes ≤ 140737488355328)
    {v' : Value} {w' : World} (hr : (Builtin.append_ #[t, t] ty #[.slice (some ⟨g, 0, none⟩) n cap, .slice (some ad) 1 c]).run Pg w = .ok v' w') {n0 c0 : Nat} {xs0 : List Value} (hn0 : n0 ≤ n) (h0 : w.ownsRow base e 1 (.slice (some ⟨g, 0, none⟩) n0 c0) n0 xs0) : w'.ownsRow base e 1 (.slice (some ⟨g, 0, none⟩) n0 c0) n0 xs0 := by
  obtain ⟨hb, cur, hg, hnc, hcm, hcs, hx⟩ := own_at hown
  obtain ⟨_, cur0, hg0, hnc0, hcm0, hcs0, hx0⟩ := own_at h0
  rw [hg] at hg0
  cases hg0
  have hcc : c0 = cap := by omega
  subst hcc
  have hnw : ∀ (j : Nat) (x : Value), [u][j]? = some x → w.cell? (ad.add j) = some x := by
    intro j x hj
    match j, hj with
    | 0, hj => simp at hj; subst hj; exact hnews
  subst hby
  by_cases hroom : n + 1 ≤ c0
  · have := run_append_room (P := Pg) w t ty e i ht hi g n c0 cur hg ad 1 c [u] (by rw [hs1]; rfl) hnw (by simpa using h1) hroom (by rw [hs1, hcs]; simp; omega)
    rw [this] at hr
    injection hr with _ hr
    subst hr
    refine ⟨h0.1, .inr ⟨g, c0, _, rfl, hb, setRow_heap w g cur _ e _ hg, hnc0, hcm0, ?_, ?_⟩⟩
    · simp only [List.size_toArray, List.length_append, List.length_take, List.length_drop, Array.length_toList, List.length_cons, List.length_nil, hs1]
      omega
    · rw [hs1, Nat.mul_one, Nat.mul_one, List.append_assoc, List.take_append_of_le_length (by rw [List.length_take, Array.length_toList]; omega), List.take_take, Nat.min_eq_left hn0]
      exact hx0
  · have := run_append_grow (P := Pg) w t ty e i z ht hi hz ⟨g, 0, none⟩ n c0 xs (by rw [hs1]; exact hown.1) (hown.cells (g := g) rfl) ad 1 c [u] (by rw [hs1]; rfl) hnw (by omega) (by simp only [maxLen] at h63; omega) (growslice_fits (by omega) hbytes)
    rw [this] at hr
    injection hr with _ hr
    subst hr
    exact ⟨h0.1, .inr ⟨g, c0, cur, rfl, hb, (heap_alloc_old w.drew _ (lt_heap hg)).trans hg, hnc0, hcm0, by omega, by rw [Nat.mul_one]; exact hx0⟩⟩
theorem wpL_hold {Pg : Program} {w : World} {ops : Array Oper} {rest : List Oper} {o : Oper} {a : Act} {Q : Exit → Act → World → Prop} (hgd : o.guard = none) (s x : Operand) (t : TypeId)
    (ho : o.op = .call { callee := .builtin .append, args := #[s, x], argTypes := #[t, t] })
    (base : Nat) (e : TypeId) (i : TypeInfo) (z : Value) (bytes : Nat) (ht : Pg.underlying t = some (.slice e)) (hi : Pg.info? e = some i) (hz : i.zero = some z)
    (hs1 : i.size = 1) (hby : i.bytes = bytes) (hzs : z.cells.size = 1)
    (v : Value) (n : Nat) (xs : List Value) (hs : a.eval s = v) (hown : w.ownsRow base e 1 v n xs)
    (ad : Addr) (c : Nat) (u : Value) (hx : a.eval x = .slice (some ad) 1 c) (hnews : w.cell? ad = some u) (h1 : u.oneCell' = true)
    (h63 : n + 1 ≤ maxLen) (hbytes : (n + 1) * bytes ≤ 140737488355328) (hbase : base ≤ w.heap.size)
    (h : ∀ v' w', w'.ownsRow base e 1 v' (n + 1) (xs ++ [u]) → w.grownBy w' v.ownBlock → (v'.ownBlock = v.ownBlock ∨ v'.ownBlock = some w.heap.size) → (∀ (v0 : Value) (n0 : Nat) (xs0 : List Value), w.ownsRow base e 1 v0 n0 xs0 → (v0.ownBlock = v.ownBlock → n0 ≤ n) → w'.ownsRow base e 1 v0 n0 xs0) → wpList Pg ops Q rest (a.put o.dst v') w') :
    wpList Pg ops Q (o :: rest) a w := by
  refine wpList_plain hgd fun K hK => ?_
  have hnw : ∀ (j : Nat) (y : Value), [u][j]? = some y → w.cell? (ad.add j) = some y := by
    intro j y hj
    match j, hj with
    | 0, hj => simp at hj; subst hj; exact hnews
  obtain ⟨v', w', hr, h2, h3, _, h4⟩ := run_append_own_at (P := Pg) w base t o.type e i z 1 bytes ht hi hz hs1 hby hzs (by decide) v n xs hown ad 1 c [u] (by simp) hnw (by simpa using h1) h63 hbytes hbase
  have h6 : ∀ (v0 : Value) (n0 : Nat) (xs0 : List Value), w.ownsRow base e 1 v0 n0 xs0 → (v0.ownBlock = v.ownBlock → n0 ≤ n) → w'.ownsRow base e 1 v0 n0 xs0 := by
    intro v0 n0 xs0 h0 hle
    rcases h0.2 with ⟨rfl, hz0⟩ | ⟨g0, c0, cur0, rfl, hb0, hg0, k1, k2, k3, k4⟩
    · exact ⟨h0.1, .inl ⟨rfl, hz0⟩⟩
    · by_cases hq : (Value.slice (some ⟨g0, 0, none⟩) n0 c0).ownBlock = v.ownBlock
      · rcases hown.2 with ⟨rfl, _⟩ | ⟨g, cap, cur, rfl, _⟩
        · cases hq
        · injection hq with hq'
          have hq'' : g0 = g := hq'
          subst hq''
          exact append_held ht hi hz hs1 hby hown hnews h1 h63 hbytes hr (hle rfl) h0
      · exact ⟨h0.1, .inr ⟨g0, c0, cur0, rfl, hb0, (h3.block g0 (lt_heap hg0) hq).trans hg0, k1, k2, k3, k4⟩⟩
  unfold Oper.wp execOp
  simp only [ho, resolve, invoke, builtin, Sem.run_bind, Sem.run_pure, Result.andThen_ok, List.map_toArray, List.map_cons, List.map_nil, hs, hx, hr]
  exact hK _ _ (h v' w' h2 h3 h4 h6)
end Go.Proofs.YtgfjdkkfgclhjaaGreat.Bd
