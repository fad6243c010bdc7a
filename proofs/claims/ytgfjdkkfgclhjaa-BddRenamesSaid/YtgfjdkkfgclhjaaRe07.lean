/- What the claim leans on, part 7 of 8: PR PE CR CX CY2. -/
import Derived.Deep.CutBlock
import Derived.Deep.DeepCutAuto
import Derived.Laws.CopyOwn
import Derived.Laws.OwnMore
import Derived.OwnWalk
import Derived.StillTailTactics
import Derived.Test.YtgfjdkkfgclhjaaSp01
import Derived.Test.YtgfjdkkfgclhjaaSp02
import Derived.Test.YtgfjdkkfgclhjaaSp03
import Derived.Test.YtgfjdkkfgclhjaaSp04
import Derived.Test.YtgfjdkkfgclhjaaSp05
import Derived.Test.YtgfjdkkfgclhjaaSp06
/- Other variables, in plain words: the two lists, the row of values. -/
namespace Go.Proofs.Ytgfjdkkfgclhjaa.Bd
open Go.RowKit Go.Proofs.Ytgfjdkkfgclhjaa Go.Proofs.Ytgfjdkkfgclhjaa.Lx Go.Maps

theorem rnOf_snoc (ps : List (Nat × Nat)) (a b x : Nat) : rnOf (ps ++ [(a, b)]) x = if x = a then b else rnOf ps x := by
  unfold rnOf
  rw [intoF_snoc]
  simp only
  by_cases h : x = a
  · subst h
    simp
  · rw [if_neg (by omega), if_neg h]
def wRen (v : List Bool) (ps : List (Nat × Nat)) : List Bool := ps.foldl (fun w p => w.set p.1 (v.getD p.2 false)) v
theorem wRen_snoc (v : List Bool) (ps : List (Nat × Nat)) (p : Nat × Nat) : wRen v (ps ++ [p]) = (wRen v ps).set p.1 (v.getD p.2 false) := by
  unfold wRen
  rw [List.foldl_append]
  rfl
theorem wRen_len (v : List Bool) (ps : List (Nat × Nat)) : (wRen v ps).length = v.length := by
  rcases List.eq_nil_or_concat ps with rfl | ⟨qs, q, rfl⟩
  · rfl
  · rw [List.concat_eq_append, wRen_snoc, List.length_set, wRen_len v qs]
termination_by ps.length
decreasing_by all_goals simp_wf; (try simp_all)
theorem env_set {l : List Bool} {i : Nat} {b : Bool} (h : i < l.length) : envOf (l.set i b) = fun x => if x = i then b else envOf l x := by
  funext x
  unfold envOf
  rw [List.getD_eq_getElem?_getD, List.getD_eq_getElem?_getD, List.getElem?_set]
  by_cases e : x = i
  · subst e
    simp [h]
  · rw [if_neg (fun h => e h.symm), if_neg e]
theorem env_ren (v : List Bool) (ps : List (Nat × Nat)) (h : ∀ p ∈ ps, p.1 < v.length) : envOf (wRen v ps) = fun x => envOf v (rnOf ps x) := by
  rcases List.eq_nil_or_concat ps with rfl | ⟨qs, q, rfl⟩
  · rfl
  · rw [List.concat_eq_append] at h ⊢
    have ih := env_ren v qs (fun p hp => h p (by simp [hp]))
    rw [wRen_snoc, env_set (by rw [wRen_len]; exact h q (by simp)), ih]
    funext x
    simp only
    obtain ⟨a, b⟩ := q
    rw [rnOf_snoc]
    by_cases e : x = a
    · rw [if_pos e, if_pos e]
      rfl
    · rw [if_neg e, if_neg e]
termination_by ps.length
decreasing_by all_goals simp_wf; (try simp_all)
theorem ren_env (F : Env → Bool) (v : List Bool) (ps : List (Nat × Nat)) (h : ∀ p ∈ ps, p.1 < v.length) : renT (rnOf ps) F (envOf v) = F (envOf (wRen v ps)) := by
  rw [env_ren v ps h]
  rfl
/-- the two rows: 0 1 2 3 .., and 1 0 3 2 .. -/
def evL (n : Nat) : List Nat := List.range n
def odL (n : Nat) : List Nat := (List.range n).map fun x => x ^^^ 1
theorem evL_len (n : Nat) : (evL n).length = n := by simp [evL]
theorem odL_len (n : Nat) : (odL n).length = n := by simp [odL]
theorem xor_even : ∀ i, i < 20 → (2 * i) ^^^ 1 = 2 * i + 1 ∧ (2 * i + 1) ^^^ 1 = 2 * i := by decide
theorem evL_two (i : Nat) : evL (2 * i) ++ [2 * i, 2 * i + 1] = evL (2 * (i + 1)) := by
  unfold evL
  rw [show 2 * (i + 1) = 2 * i + 1 + 1 by omega, List.range_succ, List.range_succ]
  simp
theorem odL_two {i : Nat} (h : i < 20) : odL (2 * i) ++ [2 * i + 1, 2 * i] = odL (2 * (i + 1)) := by
  unfold odL
  rw [show 2 * (i + 1) = 2 * i + 1 + 1 by omega, List.range_succ, List.range_succ]
  simp [xor_even i h]
theorem swap_rn : ∀ x, x < 40 → rnOf ((evL 40).zip (odL 40)) x = x ^^^ 1 := by decide +kernel
theorem xor_40 : ∀ x, x < 40 → x ^^^ 1 < 40 ∧ (x ^^^ 1) ^^^ 1 = x := by decide
theorem odL_lt : ∀ x ∈ odL 40, x < 40 := by decide
theorem evL_lt : ∀ x ∈ evL 40, x < 40 := by decide
theorem evL_nodup : (evL 40).Nodup := by unfold evL; exact List.nodup_range
variable {s : St} {f : Nat} {S : Nat → Bool} {F : Env → Bool}
theorem swap_turn (N : Nod s f S F) (h : ∀ x, S x = true → x < 40) : renT (rnOf ((evL 40).zip (odL 40))) F = fun ρ => F (turnE 1 ρ) := by
  obtain ⟨_, t, d⟩ := N
  funext ρ
  exact d.indepS _ _ (fun x _ _ hx => by
    simp only [turnE]
    rw [swap_rn x (h x hx)])
theorem swap_twice (N : Nod s f S F) (h : ∀ x, S x = true → x < 40) : renT (rnOf ((evL 40).zip (odL 40))) (renT (rnOf ((evL 40).zip (odL 40))) F) = F := by
  obtain ⟨_, t, d⟩ := N
  funext ρ
  exact d.indepS _ _ (fun x _ _ hx => by
    have h1 := xor_40 x (h x hx)
    simp only
    rw [swap_rn x (h x hx), swap_rn _ h1.1, h1.2])
theorem swap_img (h : ∀ x, S x = true → x < 40) : ∀ x, imgA S ((evL 40).zip (odL 40)) x = true → x < 40 := by
  intro x hx
  obtain ⟨y, _, _, h1, h2⟩ := imgS_iff.1 hx
  rw [swap_rn y (h y h1)] at h2
  have := (xor_40 y (h y h1)).1
  omega
theorem img_lt {ps : List (Nat × Nat)} {n : Nat} (h : ∀ x, S x = true → x < n) (hp : ∀ p ∈ ps, p.2 < n) : ∀ x, imgA S ps x = true → x < n := by
  intro x hx
  obtain ⟨y, _, _, h1, h2⟩ := imgS_iff.1 hx
  unfold rnOf at h2
  split at h2
  · rename_i c hc
    obtain ⟨p, hpm, _, e⟩ := intoF_some hc
    have := hp p hpm
    omega
  · have := h y h1
    omega
theorem img_n {ps : List (Nat × Nat)} {n : Nat} (h : nS S 0 ≤ n) : nS (imgA S ps) 0 ≤ n := by
  have := imgS_le S (rnOf ps) 0 0
  unfold imgA
  omega
theorem zip_take_snoc {ms ns : List Nat} {i a b : Nat} (h1 : ms[i]? = some a) (h2 : ns[i]? = some b) : (ms.zip ns).take (i + 1) = (ms.zip ns).take i ++ [(a, b)] := by
  have : (ms.zip ns)[i]? = some (a, b) := by simp [List.getElem?_zip_eq_some, h1, h2]
  rw [List.take_add_one, this]
  rfl
theorem zip_fst {ms ns : List Nat} {n : Nat} (h : ∀ x ∈ ms, x < n) : ∀ p ∈ ms.zip ns, p.1 < n := fun p hp => h _ (List.of_mem_zip hp).1
theorem zip_snd {ms ns : List Nat} {n : Nat} (h : ∀ x ∈ ns, x < n) : ∀ p ∈ ms.zip ns, p.2 < n := fun p hp => h _ (List.of_mem_zip hp).2
end Go.Proofs.Ytgfjdkkfgclhjaa.Bd
/- The least values for which a function is true, in plain words. No program is in sight. -/
namespace Go.Proofs.Ytgfjdkkfgclhjaa.Bd

/-- down from node i, along the variables of a list: a bit is set only where it must be -/
def lst (nd : List Nd) : List Nat → Nat → List Bool
  | [], _ => []
  | v :: vs, i => match nd[i]? with
    | some (t, lo, hi) => if 2 ≤ i ∧ t = v then decide (lo = 0) :: lst nd vs (if lo = 0 then hi else lo) else false :: lst nd vs i
    | none => false :: lst nd vs i
theorem lst_len (nd : List Nd) : ∀ (vs : List Nat) (i : Nat), (lst nd vs i).length = vs.length := by
  intro vs
  induction vs with
  | nil => intro i; rfl
  | cons v vs ih =>
    intro i
    unfold lst
    split
    · split <;> simp [ih]
    · simp [ih]
theorem lst_hit {nd : List Nd} {v : Nat} {vs : List Nat} {i lo hi : Nat} (h : nd[i]? = some (v, lo, hi)) (h2 : 2 ≤ i) : lst nd (v :: vs) i = decide (lo = 0) :: lst nd vs (if lo = 0 then hi else lo) := by
  rw [lst, h]
  simp only
  rw [if_pos ⟨h2, trivial⟩]
theorem lst_miss {nd : List Nd} {v t : Nat} {vs : List Nat} {i lo hi : Nat} (h : nd[i]? = some (t, lo, hi)) (h2 : ¬ (2 ≤ i ∧ t = v)) : lst nd (v :: vs) i = false :: lst nd vs i := by
  rw [lst, h]
  simp only
  rw [if_neg h2]
/-- values that go along a list -/
def Along (vs : List Nat) (l : List Bool) (n : Nat) (σ : Env) : Prop := ∀ (j v : Nat) (b : Bool), j < n → vs[j]? = some v → l[j]? = some b → σ v = b
theorem Along.tail {v : Nat} {vs : List Nat} {b : Bool} {l : List Bool} {n : Nat} {σ : Env} (h : Along (v :: vs) (b :: l) (n + 1) σ) : σ v = b ∧ Along vs l n σ :=
  ⟨h 0 v b (by omega) rfl rfl, fun j x c hj hx hc => h (j + 1) x c (by omega) (by simpa using hx) (by simpa using hc)⟩
variable {S : Nat → Bool} {nd : List Nd}
/-- .. and the function is true -/
theorem lst_true (hw : WF nd) : ∀ (vs : List Nat) (i t : Nat) (G : Env → Bool) (σ : Env), Den S nd i t G → Rise vs → (∀ x, S x = true → t ≤ x → x < 256 → x ∈ vs) → i ≠ 0 → Along vs (lst nd vs i) vs.length σ → G σ = true := by
  intro vs
  induction vs with
  | nil =>
    intro i t G σ d _ hin hi _
    rcases Nat.lt_or_ge i 2 with h2 | h2
    · obtain ⟨_, hG⟩ := d.ends h2
      rw [hG]
      simp; omega
    · obtain ⟨_, _, _, _, _, _, _, _, _, _, _, _, r6, r7, _⟩ := d.row h2
      exact absurd (hin t r7 (Nat.le_refl _) r6) (by simp)
  | cons v vs ih =>
    intro i t G σ d hr hin hi ha
    obtain ⟨hr1, hr2⟩ := List.pairwise_cons.1 hr
    by_cases hc : 2 ≤ i ∧ t = v
    · obtain ⟨h2, rfl⟩ := hc
      obtain ⟨lo, hi', tl, th, Fl, Fh, hrow, r1, r2, r3, r4, r5, r6, r7, dl, dh, rfl⟩ := d.row h2
      rw [lst_hit hrow h2] at ha
      obtain ⟨hv, ha'⟩ := ha.tail
      have hsub : ∀ tt, t < tt → ∀ x, S x = true → tt ≤ x → x < 256 → x ∈ vs := by
        intro tt htt x hx h1 h3
        rcases List.mem_cons.1 (hin x hx (by omega) h3) with e | e
        · omega
        · exact e
      simp only [hv]
      by_cases h0 : lo = 0
      · rw [if_pos h0] at ha'
        simp only [h0, decide_true, if_true]
        exact ih hi' th Fh σ dh hr2 (hsub th r5) (by omega) ha'
      · rw [if_neg h0] at ha'
        simp only [h0, decide_false, Bool.false_eq_true, if_false]
        exact ih lo tl Fl σ dl hr2 (hsub tl r4) h0 ha'
    · have hrow : ∃ lo hi, nd[i]? = some (t, lo, hi) := by
        cases d with
        | zero => exact ⟨_, _, hw.e0⟩
        | one => exact ⟨_, _, hw.e1⟩
        | node h h2 hl hh hne h1 h3 hv hS dl dh => exact ⟨_, _, h⟩
      obtain ⟨lo, hi', hrow⟩ := hrow
      rw [lst_miss hrow hc] at ha
      refine ih i t G σ d hr2 (fun x hx h1 h3 => ?_) hi ha.tail.2
      rcases List.mem_cons.1 (hin x hx h1 h3) with e | e
      · subst e
        exfalso
        rcases Nat.lt_or_ge i 2 with h2 | h2
        · have := (d.ends h2).1; omega
        · obtain ⟨_, _, _, _, _, _, _, _, _, _, _, _, r6, r7, _⟩ := d.row h2
          rcases List.mem_cons.1 (hin t r7 (Nat.le_refl _) r6) with e | e
          · exact hc ⟨h2, e⟩
          · have := hr1 t e; omega
      · exact e
/-- where a bit is set: without it, whatever comes behind, the function is false -/
theorem lst_least (hw : WF nd) : ∀ (vs : List Nat) (i t k : Nat) (G : Env → Bool) (σ : Env), Den S nd i t G → (lst nd vs i)[k]? = some true → Along vs (lst nd vs i) k σ → (∀ v, vs[k]? = some v → σ v = false) → Rise vs → G σ = false := by
  intro vs
  induction vs with
  | nil => intro i t k G σ d hk; simp [lst] at hk
  | cons v vs ih =>
    intro i t k G σ d hk ha hf hr
    obtain ⟨hr1, hr2⟩ := List.pairwise_cons.1 hr
    by_cases hc : 2 ≤ i ∧ t = v
    · obtain ⟨h2, rfl⟩ := hc
      obtain ⟨lo, hi', tl, th, Fl, Fh, hrow, r1, r2, r3, r4, r5, r6, r7, dl, dh, rfl⟩ := d.row h2
      rw [lst_hit hrow h2] at hk ha
      cases k with
      | zero =>
        have h0 : lo = 0 := by simpa using hk
        have hv := hf t rfl
        simp only [hv, Bool.false_eq_true, if_false]
        subst h0
        obtain ⟨_, e⟩ := dl.det .zero
        rw [e]
      | succ k =>
        obtain ⟨hv, ha'⟩ := ha.tail
        simp only [List.getElem?_cons_succ] at hk
        simp only [hv]
        by_cases h0 : lo = 0
        · rw [if_pos h0] at ha' hk
          simp only [h0, decide_true, if_true]
          exact ih hi' th k Fh σ dh hk ha' (fun x hx => hf x (by simpa using hx)) hr2
        · rw [if_neg h0] at ha' hk
          simp only [h0, decide_false, Bool.false_eq_true, if_false]
          exact ih lo tl k Fl σ dl hk ha' (fun x hx => hf x (by simpa using hx)) hr2
    · have hrow : ∃ lo hi, nd[i]? = some (t, lo, hi) := by
        cases d with
        | zero => exact ⟨_, _, hw.e0⟩
        | one => exact ⟨_, _, hw.e1⟩
        | node h h2 hl hh hne h1 h3 hv hS dl dh => exact ⟨_, _, h⟩
      obtain ⟨lo, hi', hrow⟩ := hrow
      rw [lst_miss hrow hc] at ha hk
      cases k with
      | zero => simp at hk
      | succ k =>
        simp only [List.getElem?_cons_succ] at hk
        exact ih i t k G σ d hk ha.tail.2 (fun x hx => hf x (by simpa using hx)) hr2
end Go.Proofs.Ytgfjdkkfgclhjaa.Bd
/- Least, whole. -/
namespace Go.Proofs.Ytgfjdkkfgclhjaa.Bd
open Go.RowKit Go.Proofs.Ytgfjdkkfgclhjaa Go.Proofs.Ytgfjdkkfgclhjaa.Lx Go.Maps

theorem infoB : (Try.prog.info? 4).map (fun i => (i.zero, i.size, i.bytes)) = some (some (.bool false), 1, 1) := by kernel_rfl
/-- a block of bools -/
def BRow (w : World) (g : Nat) (l : List Bool) : Prop := ∃ cur : Array Value, w.heap[g]? = some (.cells cur 4 (0, 0)) ∧ ∀ (j : Nat) (b : Bool), l[j]? = some b → cur[j]? = some (.bool b)
section
variable {w w' : World} {g : Nat} {l : List Bool}
theorem BRow.cell (h : BRow w g l) {j : Nat} {b : Bool} (hj : l[j]? = some b) : w.cell? ⟨g, j, none⟩ = some (.bool b) := by
  obtain ⟨cur, h1, h2⟩ := h
  exact cell_heap h1 (h2 j b hj)
theorem BRow.frozen (h : BRow w g l) (j : Nat) : w.frozen? ⟨g, j, none⟩ = false := by
  obtain ⟨cur, h1, h2⟩ := h
  exact frozen_heap h1
theorem BRow.lt (h : BRow w g l) : g < w.heap.size := by
  obtain ⟨cur, h1, h2⟩ := h
  exact lt_heap h1
theorem BRow.put (h : BRow w g l) {x : Nat} {c : Bool} (hx : x < l.length) : BRow (w.setCell ⟨g, x, none⟩ (.bool c)) g (l.set x c) := by
  obtain ⟨cur, h1, h2⟩ := h
  refine ⟨cur.setIfInBounds x (.bool c), heap_set h1, fun j b hj => ?_⟩
  rw [List.getElem?_set] at hj
  rw [Array.getElem?_setIfInBounds]
  have hlt : x < cur.size := by
    have := h2 x _ (List.getElem?_eq_getElem hx)
    rcases Nat.lt_or_ge x cur.size with h' | h'
    · exact h'
    · rw [Array.getElem?_eq_none h'] at this; cases this
  by_cases e : x = j
  · rw [if_pos e, if_pos hx] at hj
    cases hj
    rw [if_pos e, if_pos hlt]
  · rw [if_neg e] at hj
    rw [if_neg e]
    exact h2 j b hj
theorem BRow.below (h : BRow w g l) (hb : Below w.heap.size w w') : BRow w' g l := by
  obtain ⟨cur, h1, h2⟩ := h
  exact ⟨cur, heapB hb h1, h2⟩
theorem BRow.src (h : BRow w g l) : Src w (some ⟨g, 0, none⟩) l.length l.length 1 (l.map Value.bool) := by
  refine ⟨by simp, .inr ⟨_, rfl, fun j u hu => ?_⟩⟩
  rw [List.getElem?_map] at hu
  obtain ⟨b, hb, rfl⟩ := Option.map_eq_some_iff.1 hu
  rw [show (⟨g, 0, none⟩ : Addr).add j = ⟨g, j, none⟩ by simp [Addr.add, eq_comm]]
  exact h.cell hb
theorem brow_own {base n cap : Nat} {vals : List Value} (h : w.ownsRow base 4 1 (.slice (some ⟨g, 0, none⟩) n cap) n vals) (hv : vals = l.map Value.bool) : BRow w g l := by
  rcases h.2 with ⟨h1, _⟩ | ⟨g', cap', cur, h1, _, h3, _, _, _, h5⟩
  · cases h1
  · injection h1 with h1
    injection h1 with h1
    injection h1 with h1
    subst h1
    refine ⟨cur, h3, fun j b hj => ?_⟩
    have e : vals[j]? = some (.bool b) := by rw [hv, List.getElem?_map, hj]; rfl
    rw [← h5] at e
    have := lt_of_some e
    rw [List.getElem?_take_of_lt (by simp at this; omega)] at e
    simpa using e
end
def LeastOut (nd : List Nd) (f : Nat) (ov : List Nat) (w : World) (e : Ending) (w' : World) : Prop :=
  ∃ g, e = .returned (.tuple #[.slice (some ⟨g, 0, none⟩) ov.length ov.length, .int .i64 0]) ∧ w.heap.size ≤ g ∧ BRow w' g (lst nd ov f) ∧ Below w.heap.size w w'
/-- after i of the variables: what stands in the row; where the walk is -/
structure Ls (S : Nat → Bool) (nd : List Nd) (f : Nat) (ov : List Nat) (w wr : World) (g i x : Nat) (pre : List Bool) : Prop where
  b : Below w.heap.size w wr
  row : BRow wr g (pre ++ List.replicate (ov.length - i) false)
  len : pre.length = i
  rest : lst nd ov f = pre ++ lst nd (ov.drop i) x
  den : ∃ t F, Den S nd x t F
theorem lst_cut {nd : List Nd} {v lo hi x : Nat} {vs : List Nat} (h : nd[x]? = some (v, lo, hi)) (h2 : 2 ≤ x) : lst nd (v :: vs) x = decide (lo = 0) :: lst nd vs (cut nd x v (decide (lo = 0))) := by
  have hc : cut nd x v (decide (lo = 0)) = if lo = 0 then hi else lo := by
    unfold cut
    rw [h]
    simp
  rw [lst_hit h h2, hc]
theorem set_next (pre : List Bool) (m : Nat) (c : Bool) (hm : 0 < m) : (pre ++ List.replicate m false).set pre.length c = (pre ++ [c]) ++ List.replicate (m - 1) false := by
  obtain ⟨k, rfl⟩ : ∃ k, m = k + 1 := ⟨m - 1, by omega⟩
  rw [List.set_append_right _ _ (Nat.le_refl _), Nat.sub_self, List.replicate_succ]
  simp
theorem same_next (pre : List Bool) (m : Nat) (hm : 0 < m) : pre ++ List.replicate m false = (pre ++ [false]) ++ List.replicate (m - 1) false := by
  obtain ⟨k, rfl⟩ : ∃ k, m = k + 1 := ⟨m - 1, by omega⟩
  rw [List.replicate_succ]
  simp
theorem Ls.next {S : Nat → Bool} {nd : List Nd} {f : Nat} {ov : List Nat} {w wr w' : World} {g i x x' : Nat} {pre : List Bool} {c : Bool} (h : Ls S nd f ov w wr g i x pre) (hi : i < ov.length) (hb : Below w.heap.size w w') (hr : BRow w' g ((pre ++ [c]) ++ List.replicate (ov.length - i - 1) false)) (hrest : lst nd (ov.drop i) x = c :: lst nd (ov.drop (i + 1)) x') (hd : ∃ t F, Den S nd x' t F) : Ls S nd f ov w w' g (i + 1) x' (pre ++ [c]) := by
  refine ⟨hb, hr, by simp [h.len], ?_, hd⟩
  rw [h.rest, hrest]
  simp
theorem Ls.done {S : Nat → Bool} {nd : List Nd} {f : Nat} {ov : List Nat} {w wr : World} {g x : Nat} {pre : List Bool} (h : Ls S nd f ov w wr g ov.length x pre) (hg : w.heap.size ≤ g) : LeastOut nd f ov w (.returned (.tuple #[.slice (some ⟨g, 0, none⟩) ov.length ov.length, .int .i64 0])) wr := by
  refine ⟨g, rfl, hg, ?_, h.b⟩
  have := h.row
  rw [h.rest, List.drop_length]
  simpa [lst] using this
set_option maxHeartbeats 4000000 in
set_option maxRecDepth 100000 in
theorem Least_any (S : Nat → Bool) (k : Blk) (s : St) (f t : Nat) (F : Env → Bool) (A : Option Addr) (c : Nat) (ov : List Nat) (w : World) (hA : Ar w k s) (hv : s.vs ≤ 256) (g1 : s.gi f = true) (d : Den S s.nd f t F) (hf0 : f ≠ 0) (hov : Rise ov) (hall : ∀ x ∈ ov, x < s.vs) (hin : ∀ x, S x = true → x ∈ ov) (hS : Src w A ov.length c 1 ((encL ov).map encI)) (hn : ov.length ≤ 256) (hm : s.m + 2 ≤ 1000000000) :
    Calls Try.prog 13 #[.pointer (some ⟨k.p, 0, none⟩), .int .i64 f, .slice A ov.length c] w (LeastOut s.nd f ov w) := by
  have hW := hA.wf
  have hnm := hA.nm
  have hfl := d.lt hW
  have hbl := bel_one w (.cells #[.int .i64 f] 3)
  have HC := hide (check_any k s [(f : Int)] w.heap.size _ (hA.below hbl) (cells1 w f) (by simp; omega) (by simp))
  rw [show [(f : Int)].length = 1 from rfl, gvn_all (s := s) (l := [(f : Int)]) (by simp [g1])] at HC
  have HRI := hide (rises_any k s f A c (encL ov) (w.alloc (.cells #[.int .i64 f] 3)) (hA.below hbl) g1 hfl (by rw [encL_len]; exact hS.below hbl) (by rw [encL_len]; omega) hm)
  rw [encL_len] at HRI
  have HRT := hide (fun (e : Ending) (w' : World) => rises_true (w := (w.alloc (.cells #[.int .i64 f] 3))) (w' := w') (e := e) hW d hov hall hin)
  have HBL := hide hbl
  have HA := hide hA
  have HS := hide hS
  have HD := hide d
  have HL := hide (And.intro hv hall)
  have d0 : decide ((f : Int) = 0) = false := by simp; omega
  have d0' : ((f : Int) == 0) = false := by simp; omega
  have hwr : IntKind.i32.wrap (f : Int) = f := wrap3 (by omega) (by omega)
  obtain ⟨i1, hi1, iz1, is1, ib1⟩ := info_at infoB
  have hlen := hn
  clear hA d hov hall hin hS hbl g1
  go_enter Try.func13, Try.ntmps13
  go_wp2_with fail
  refine HC.out.mono ?_
  rintro e w1 ⟨rfl, rfl⟩
  go_wp2_with fail
  refine HRI.out.mono ?_
  intro e w2 hh
  obtain ⟨rfl, hb⟩ := HRT.out e w2 hh
  have HB2 := hide (below_wide HBL.out hb)
  clear hh hb HRI HRT HC
  go_wp2_with (at_make; (refine wpList_make_full _ rfl _ _ 23 rfl w2.heap.size 4 i1 (.bool false) 1 Try.underlying23 hi1 iz1 is1 .i64 .i64 ov.length ov.length ov.length rfl rfl rfl rfl ?b2 ?b3 (Nat.le_refl _) ?_))
  case b2 => rw [ib1]; omega
  case b3 => unfold maxLen; omega
  intro w3 hown hgr
  rw [toList_madeCells_one] at hown
  have HR3 := hide (brow_own (l := List.replicate ov.length false) hown (by simp))
  have HB3 := hide (HB2.out.grown hgr HB2.out.size (fun k hk => by cases hk))
  have HG := hide HB2.out.size
  clear hown hgr
  go_wp2_with fail
  generalize w2.heap.size = g at *
  go_loopw [10, 34] (fun a j wr => ∃ (i x : Nat) (pre : List Bool), j = .int .i64 i ∧ a = .int .i32 x ∧ i ≤ ov.length ∧ Ls S s.nd f ov w wr g i x pre) (fun _ j _ => ov.length - (intOf j).toNat)
  case atStart => exact ⟨0, f, [], rfl, rfl, Nat.zero_le _, HB3.out, HR3.out, rfl, by simp, _, _, HD.out⟩
  case round =>
    obtain ⟨i, x, pre, rfl, rfl, hi, HX⟩ := hrel
    have HX := hide HX
    rcases Nat.lt_or_ge i ov.length with hlt | hge
    · have d1 : decide (i < ov.length) = true := by simpa using hlt
      have d1' : decide ((i : Int) < ov.length) = true := by simp; omega
      obtain ⟨v, hvx⟩ : ∃ v, ov[i]? = some v := ⟨_, List.getElem?_eq_getElem hlt⟩
      have hv256 : v < 256 := by have := HL.out.2 v (List.mem_of_getElem? hvx); have := HL.out.1; omega
      obtain ⟨ad, rfl, cv⟩ := src_at (HS.out.below HX.out.b) (i := i) (x := (v : Int)) (by unfold encL; rw [List.getElem?_map, hvx]; rfl)
      have hdrop : ov.drop i = v :: ov.drop (i + 1) := by
        rw [List.drop_eq_getElem_cons hlt]
        rw [List.getElem?_eq_getElem hlt] at hvx
        cases hvx
        rfl
      obtain ⟨tx, G, dx⟩ := HX.out.den
      have hxl := dx.lt hW
      have hArw := HA.out.below HX.out.b
      obtain ⟨⟨tv, lo, hi'⟩, hr⟩ : ∃ y, s.nd[x]? = some y := ⟨_, List.getElem?_eq_getElem hxl⟩
      have HAW := hide hArw
      obtain ⟨_, _, H, _⟩ := hArw
      have hc2 := H.c2
      obtain ⟨n0, n1, n2⟩ := H.node hr
      simp only at n0 n1
      have hxi : (x : Int) < s.nd.length := by omega
      have HDX := hide dx
      have HRX := hide hr
      have HDR := hide hdrop
      clear H hr dx hdrop hvx
      by_cases hc : 2 ≤ x ∧ tv = v
      · obtain ⟨h2, rfl⟩ := hc
        have e1 : decide ((1 : Int) < x) = true := by simp; omega
        have e2 : ((tv : Int) == tv) = true := by simp
        have e3 : decide ((tv : Int) = tv) = true := by simp
        have hwv : IntKind.i32.wrap (tv : Int) = tv := wrap3 (by omega) (by omega)
        have hgl : (pre ++ List.replicate (ov.length - i) false).length = ov.length := by simp [HX.out.len]; omega
        have hold : (pre ++ List.replicate (ov.length - i) false)[i]? = some false := by
          rw [List.getElem?_append_right (by rw [HX.out.len]; exact Nat.le_refl _), HX.out.len, Nat.sub_self, List.getElem?_replicate, if_pos (by omega)]
        have cr := HX.out.row.cell hold
        have fr := HX.out.row.frozen i
        have hlz : decide ((lo : Int) = 0) = decide (lo = 0) := by simp
        go_wp2_with fail
        have hcut := cut_den hW HDX.out (v := tv) (show tv ≤ tx by
          obtain ⟨_, _, _, _, _, _, hr', _⟩ := HDX.out.row h2
          rw [HRX.out] at hr'
          cases hr'
          exact Nat.le_refl _) hv256 (decide (lo = 0))
        have HBR := hide (HX.out.row.put (c := ((lo : Int) == 0)) (show i < _ by rw [hgl]; exact hlt))
        have hbs : Below w.heap.size w (wr.setCell ⟨g, i, none⟩ (.bool ((lo : Int) == 0))) := HX.out.b.setCell HG.out _
        have HBS := hide hbs
        refine (cut_any k s x tv ((lo : Int) == 0) _ (HA.out.below hbs) hxl (by omega) (by omega)).mono ?_
        rintro e w6 ⟨rfl, hb⟩
        have eb : ((lo : Int) == 0) = decide (lo = 0) := by rw [Bool.eq_iff_iff]; simp
        have HN := hide (Ls.next HX.out hlt (below_wide HBS.out hb) (c := decide (lo = 0)) (x' := cut s.nd x tv (decide (lo = 0))) (by
          have := HBR.out.below hb
          rw [eb] at this
          have e2 := set_next pre (ov.length - i) (decide (lo = 0)) (by omega)
          rw [HX.out.len] at e2
          rw [e2] at this
          exact this) (by rw [HDR.out]; exact lst_cut HRX.out h2) (by obtain ⟨t', _, d'⟩ := hcut; exact ⟨_, _, d'⟩))
        rw [eb]
        clear hb hbs hcut cr fr hold
        go_wp2_with fail
        go_roundw
        case rel => exact ⟨i + 1, _, _, by go_num, rfl, by omega, HN.out⟩
        case measure => simp [intOf]; omega
      · have HN := hide (Ls.next HX.out hlt HX.out.b (c := false) (x' := x) (by
          have := HX.out.row
          rw [same_next pre (ov.length - i) (by omega)] at this
          exact this) (by rw [HDR.out]; exact lst_miss HRX.out hc) HX.out.den)
        rcases Nat.lt_or_ge x 2 with h2 | h2
        · have e1 : decide ((1 : Int) < x) = false := by simp; omega
          go_wp2_with fail
          go_roundw
          case rel => exact ⟨i + 1, _, _, by go_num, rfl, by omega, HN.out⟩
          case measure => simp [intOf]; omega
        · have hne : tv ≠ v := fun e => hc ⟨h2, e⟩
          have htv : tv < 256 := by
            obtain ⟨_, _, _, _, _, _, hr', _, _, _, _, _, h6, _⟩ := HDX.out.row h2
            rw [HRX.out] at hr'
            cases hr'
            exact h6
          have e1 : decide ((1 : Int) < x) = true := by simp; omega
          have e2 : ((tv : Int) == v) = false := by simp; omega
          have e3 : (tv == v) = false := by simpa using hne
          have e4 : decide (tv = v) = false := by simpa using hne
          have e5 : decide ((tv : Int) = v) = false := by simp; omega
          go_wp2_with fail
          go_roundw
          case rel => exact ⟨i + 1, _, _, by go_num, rfl, by omega, HN.out⟩
          case measure => simp [intOf]; omega
    · have e : i = ov.length := by omega
      subst e
      have d1 : decide (ov.length < ov.length) = false := by simp
      have d1' : decide ((ov.length : Int) < ov.length) = false := by simp
      have HO := hide (HX.out.done HG.out)
      go_wp2_with fail
      go_ret2
      exact HO.out
end Go.Proofs.Ytgfjdkkfgclhjaa.Bd
/- BddRenames: the walk. -/
namespace Go.Proofs.Ytgfjdkkfgclhjaa.Bd
open Go.RowKit Go.Proofs.Ytgfjdkkfgclhjaa Go.Proofs.Ytgfjdkkfgclhjaa.Lx Go.Maps

set_option maxRecDepth 100000 in
theorem has_any (A : Option Addr) (c : Nat) (l : List Nat) (n : Nat) (w : World) (hS : Src w A l.length c 1 ((encL l).map encI)) (hl : l.length ≤ 1000000) :
    Calls Try.prog 15 #[.slice A l.length c, .int .i64 n] w fun e w' => e = .returned (.bool (decide (n ∈ l))) ∧ w = w' := by
  have HS := hide hS
  clear hS
  go_enter Try.func15, Try.ntmps15
  go_wp2_with fail
  go_loopw [5] (fun j wr => ∃ i : Nat, j = .int .i64 i ∧ i ≤ l.length ∧ wr = w ∧ n ∉ l.take i) (fun j _ => l.length - (intOf j).toNat)
  case atStart => exact ⟨0, rfl, Nat.zero_le _, rfl, by simp⟩
  case round =>
    obtain ⟨i, rfl, hi, rfl, hn⟩ := hrel
    have HN := hide hn
    clear hn
    rcases Nat.lt_or_ge i l.length with hlt | hge
    · have d1 : decide (i < l.length) = true := by simpa using hlt
      have d1' : decide ((i : Int) < l.length) = true := by simp; omega
      obtain ⟨v, hv⟩ : ∃ v, l[i]? = some v := ⟨_, List.getElem?_eq_getElem hlt⟩
      obtain ⟨ad, rfl, cv⟩ := src_at HS.out (i := i) (x := (v : Int)) (by unfold encL; rw [List.getElem?_map, hv]; rfl)
      by_cases e : v = n
      · subst e
        have e1 : decide (v ∈ l) = true := by simpa using List.mem_of_getElem? hv
        have HE := hide e1
        clear e1 hv
        go_wp2_with fail
        go_ret
        exact ⟨by rw [HE.out]; rfl, rfl⟩
      · have e1 : ((v : Int) == n) = false := by simp; omega
        have e2 : decide ((v : Int) = n) = false := by simp; omega
        have hn2 : n ∉ l.take (i + 1) := by
          rw [List.take_add_one, hv]
          simp only [Option.toList_some, List.mem_append, List.mem_singleton, not_or]
          exact ⟨HN.out, fun h => e h.symm⟩
        have HN2 := hide hn2
        clear hn2 hv e
        go_wp2_with fail
        go_roundw
        case rel => exact ⟨i + 1, by go_num, by omega, by trivial, HN2.out⟩
        case measure => simp [intOf]; omega
    · have e : i = l.length := by omega
      have d1 : decide (i < l.length) = false := by simp; omega
      have d1' : decide ((i : Int) < l.length) = false := by simp; omega
      have HE : Hid (decide (n ∈ l) = false) := hide (by have := HN.out; rw [e, List.take_length] at this; simpa using this)
      clear e
      go_wp2_with fail
      go_ret
      exact ⟨by rw [HE.out]; rfl, rfl⟩
/-- two rows that grow side by side -/
structure Twin (base : Nat) (w0 wr : World) (v u : Value) (ms ns : List Nat) : Prop where
  b : Below base w0 wr
  o1 : wr.ownsRow base 3 1 v ms.length ((encL ms).map encI)
  o2 : wr.ownsRow base 3 1 u ns.length ((encL ns).map encI)
  ne : ∀ g, v.ownBlock = some g → u.ownBlock ≠ some g
variable {base : Nat} {w0 wr w' : World} {v u : Value} {ms ns : List Nat}
theorem Twin.alloc (h : Twin base w0 wr v u ms ns) (hb : base ≤ wr.heap.size) (o : Obj) : Twin base w0 (wr.alloc o) v u ms ns := ⟨h.b.alloc hb o, h.o1.alloc o, h.o2.alloc o, h.ne⟩
theorem Twin.size (h : Twin base w0 wr v u ms ns) (hb : base ≤ w0.heap.size) : base ≤ wr.heap.size := Nat.le_trans hb h.b.size
theorem Twin.left (h : Twin base w0 wr v u ms ns) (hb : base ≤ wr.heap.size) {v' : Value} {ms' : List Nat} (ho : w'.ownsRow base 3 1 v' ms'.length ((encL ms').map encI)) (hg : wr.grownBy w' v.ownBlock) (hk : v'.ownBlock = v.ownBlock ∨ v'.ownBlock = some wr.heap.size) : Twin base w0 w' v' u ms' ns := by
  refine ⟨h.b.grown hg hb (fun k e => (h.o1.lt k e).1), ho, h.o2.kept hg ?_, fun g hv hu => ?_⟩
  · cases hu : u.ownBlock with
    | none => exact .inl rfl
    | some g => exact .inr (fun e => h.ne g e.symm hu)
  · rcases hk with e | e
    · exact h.ne g (by rw [← e]; exact hv) hu
    · rw [e] at hv
      cases hv
      have := (h.o2.lt _ hu).2
      omega
theorem Twin.right (h : Twin base w0 wr v u ms ns) (hb : base ≤ wr.heap.size) {u' : Value} {ns' : List Nat} (ho : w'.ownsRow base 3 1 u' ns'.length ((encL ns').map encI)) (hg : wr.grownBy w' u.ownBlock) (hk : u'.ownBlock = u.ownBlock ∨ u'.ownBlock = some wr.heap.size) : Twin base w0 w' v u' ms ns' := by
  refine ⟨h.b.grown hg hb (fun k e => (h.o2.lt k e).1), h.o1.kept hg ?_, ho, fun g hv hu => ?_⟩
  · cases hv : v.ownBlock with
    | none => exact .inl rfl
    | some g => exact .inr (fun e => h.ne g hv e.symm)
  · rcases hk with e | e
    · exact h.ne g hv (by rw [← e]; exact hu)
    · rw [e] at hu
      cases hu
      have := (h.o1.lt _ hv).2
      omega
theorem encL_snoc (ms : List Nat) (a : Nat) : (encL ms).map encI ++ [.int .i64 a] = (encL (ms ++ [a])).map encI := by simp [encL, encI]
theorem encL_two (ms : List Nat) (a b : Nat) : (encL ms).map encI ++ [.int .i64 a, .int .i64 b] = (encL (ms ++ [a, b])).map encI := by simp [encL, encI]
theorem twin_start (w : World) : Twin w.heap.size w w (.slice none 0 0) (.slice none 0 0) [] [] :=
  ⟨Below.refl _ w, ⟨rfl, .inl ⟨rfl, rfl⟩⟩, ⟨rfl, .inl ⟨rfl, rfl⟩⟩, fun g hg => by cases hg⟩
theorem Twin.off1 (h : Twin base w0 wr v u ms ns) {k : Blk} {s : St} (L : Live w0 k s) (hb : w0.heap.size ≤ base) : Off k base v ms.length ((encL ms).map encI) wr := by
  refine ⟨h.o1, fun g hg hf => ?_⟩
  have := L.ar.lt g hf
  have := (h.o1.lt g hg).1
  omega
theorem Twin.off2 (h : Twin base w0 wr v u ms ns) {k : Blk} {s : St} (L : Live w0 k s) (hb : w0.heap.size ≤ base) : Off k base u ns.length ((encL ns).map encI) wr := by
  refine ⟨h.o2, fun g hg hf => ?_⟩
  have := L.ar.lt g hf
  have := (h.o2.lt g hg).1
  omega
theorem Off.src {k : Blk} {base n c : Nat} {A : Option Addr} {xs : List Value} {w : World} (h : Off k base (.slice A n c) n xs w) : Src w A n c 1 xs := src_of_own h.own
theorem Off.below {k : Blk} {base n : Nat} {v : Value} {xs : List Value} {w w' : World} (h : Off k base v n xs w) (hb : Below w.heap.size w w') : Off k base v n xs w' := h.turn (Turn.below hb)
/-- forty values: what is handed in, and then false -/
def V0 (vals : List Bool) : List Bool := vals.take 40 ++ List.replicate (40 - (vals.take 40).length) false
theorem V0_len (vals : List Bool) : (V0 vals).length = 40 := by unfold V0; simp; omega
theorem splice_V0 (vals : List Bool) : splice (List.replicate 40 (Value.bool false)) 0 ((vals.take 40).map Value.bool) = (V0 vals).map Value.bool := by
  unfold splice V0
  simp only [List.take_zero, List.nil_append, Nat.zero_add, List.drop_replicate, List.map_append, List.map_replicate, List.length_map]
theorem own_emptyB (w : World) (e : TypeId) : (w.alloc (.cells #[] e)).ownsRow w.heap.size e 1 (.slice (some ⟨w.heap.size, 0, none⟩) 0 0) 0 [] :=
  ⟨rfl, .inr ⟨w.heap.size, 0, #[], rfl, Nat.le_refl _, heap_new w _, Nat.le_refl _, Nat.zero_le _, rfl, rfl⟩⟩
theorem cell_two_new (w : World) (x y : Value) (t : TypeId) : ∀ j u, [x, y][j]? = some u → (w.alloc (.cells #[x, y] t)).cell? ((⟨w.heap.size, 0, none⟩ : Addr).add j) = some u := by
  intro j u hj
  match j, hj with
  | 0, hj => simp at hj; subst hj; exact cell_heap (j := 0) (heap_new w _) rfl
  | 1, hj => simp at hj; subst hj; exact cell_heap (j := 1) (heap_new w _) rfl
  | j + 2, hj => simp at hj
theorem ev_row {n m : Nat} (h : n = 2 * m) : (encL (evL n)).map encI ++ [.int .i64 (n : Int), .int .i64 ((n : Int) + 1)] = (encL (evL (n + 2))).map encI := by
  have h1 : evL (n + 2) = evL n ++ [n, n + 1] := by subst h; rw [evL_two]; rfl
  rw [h1, ← encL_two]
  simp
theorem od_row {n m : Nat} (h : n = 2 * m) (hm : m < 20) : (encL (odL n)).map encI ++ [.int .i64 ((n : Int) + 1), .int .i64 (n : Int)] = (encL (odL (n + 2))).map encI := by
  have h1 : odL (n + 2) = odL n ++ [n + 1, n] := by subst h; rw [odL_two hm]; rfl
  rw [h1, ← encL_two]
  simp
theorem bsz : (Try.prog.info? 4).map (·.size) = some 1 := by kernel_rfl
theorem rep_own {w : World} {base g n : Nat} (h : w.ownsRow base 4 1 (.slice (some ⟨g, 0, none⟩) n n) n (List.replicate n (.bool false))) : w.heap[g]? = some (.cells (List.replicate n (Value.bool false)).toArray 4 (0, 0)) := by
  rcases h.2 with ⟨h1, _⟩ | ⟨g', cap, cur, h1, _, h3, _, _, h4, h5⟩
  · cases h1
  · injection h1 with h1 h2 h3'
    injection h1 with h1
    injection h1 with h1
    subst h1
    subst h3'
    rw [h3]
    congr 2
    have : cur.toList = List.replicate n (Value.bool false) := by
      rw [← h5, List.take_of_length_le]
      simp [h4]
    rw [← this]
theorem brow_of {w : World} {g : Nat} {l : List Bool} (h : w.heap[g]? = some (.cells (l.map Value.bool).toArray 4 (0, 0))) : BRow w g l := ⟨_, h, fun j b hj => by simp [hj]⟩
end Go.Proofs.Ytgfjdkkfgclhjaa.Bd
/- BddRenames: the walk, whole. -/
namespace Go.Proofs.Ytgfjdkkfgclhjaa.Bd
open Go.RowKit Go.Proofs.Ytgfjdkkfgclhjaa Go.Proofs.Ytgfjdkkfgclhjaa.Lx Go.Maps

/-- the two rows of variables, so far -/
structure Rl (n : Nat) (w0 wr : World) (v u : Value) (ms ns : List Nat) : Prop where
  r : Twin w0.heap.size w0 wr v u ms ns
  len : ms.length = ns.length
  le : ms.length ≤ n
  nd : ms.Nodup
  h1 : ∀ x ∈ ms, x < 40
  h2 : ∀ x ∈ ns, x < 40
theorem src_far {w w1 wr : World} {A : Option Addr} {n c : Nat} {xs : List Value} (h : Src w A n c 1 xs) (hb : Below w.heap.size w w1) (h2 : Below w1.heap.size w1 wr) : Src wr A n c 1 xs := h.below (below_wide hb h2)
set_option maxHeartbeats 16000000 in
set_option maxRecDepth 100000 in
theorem renames_any (A : Option Addr) (c : Nat) (ops : List Nat) (AF : Option Addr) (cF : Nat) (l1 : List Int) (AT : Option Addr) (cT : Nat) (l2 : List Int) (AV : Option Addr) (cV : Nat) (vals : List Bool) (w : World) (hS : Src w A ops.length c 1 (encB ops)) (hb : ∀ b ∈ ops, b < 256) (h1 : Src w AF l1.length cF 1 (l1.map encI)) (h2 : Src w AT l2.length cT 1 (l2.map encI)) (hV : Src w AV vals.length cV 1 (vals.map Value.bool)) (hl1 : l1.length ≤ maxLen) (hl2 : l2.length ≤ maxLen) (hlV : vals.length ≤ maxLen) :
    Calls Try.prog 4 #[.slice A ops.length c, .slice AF l1.length cF, .slice AT l2.length cT, .slice AV vals.length cV] w fun e w' => e = .returned (.bool true) ∧ Below w.heap.size w w' := by
  have HSB := hide hS
  have HOB := hide hb
  have HVB := hide hV
  have HFB := hide h1
  have HTB := hide h2
  have HLN := hide (And.intro hl1 (And.intro hl2 hlV))
  clear hS hb hV h1 h2 hl1 hl2 hlV
  obtain ⟨ti, tz0, tz, ts, tb⟩ := info_at infoT
  obtain ⟨ui, uz0, uz, us, ub⟩ := info_at infoB
  go_enter Try.func4, Try.ntmps4
  go_wp2_with fail
  refine (new_any 40 4194304 _ (by omega) (by omega)).mono ?_
  rintro e w1 ⟨k1, rfl, ho⟩
  have M1 := hide (mine_new ho (by omega) (by omega))
  have Q1 := hide (std_new 40)
  clear ho
  go_wp2_with fail
  refine (works_any w1).mono ?_
  rintro e w2 ⟨rfl, hb⟩
  have M2 := hide (M1.out.below hb)
  clear hb M1
  have HC := hide (made_any k1 (St.new 40 4194304) A c ops w w2 M2.out HSB.out HOB.out (by show 32 ≤ 40; omega) (by rw [budm_40]; show 0 + 16777200 ≤ 1000000000; omega) (by show 2 + 40 ≤ 900000000; omega) (by rw [bud_40]; show 0 + 534490 ≤ 4194304; omega))
  go_wp2_with fail
  refine HC.out.mono ?_
  intro e w3 hh
  obtain ⟨k3, s3, f, S, he, L, T, E, Q, hS20, hS32, N⟩ := adv_made hh Q1.out
  subst he
  have M3 := hide (M2.out.turn L T)
  have hp3 := hide T.p
  have Q3 := hide Q
  have Nf := hide N
  have HS20 := hide hS20
  have HS40 : Hid (∀ x, S x = true → x < 40) := hide (fun x hx => by have := hS32 x hx; omega)
  obtain ⟨F, hF⟩ : ∃ F, madeF 40 0 ops = F := ⟨_, rfl⟩
  rw [hF] at Nf
  have HFE := hide hF
  clear hh L T E Q N HC M2 hF hS20 hS32
  go_upto_block 0 with fail
  go_cut [12, 13] (fun v u wr => ∃ ms ns, Rl 12 w3 wr v u ms ns)
  case first =>
    go_wp2_with fail
    go_loopw [12, 13, 14] (fun v u j wr => ∃ (i : Nat) (ms ns : List Nat), j = .int .i64 i ∧ i ≤ 12 ∧ i ≤ l1.length ∧ i ≤ l2.length ∧ Rl i w3 wr v u ms ns) (fun _ _ j _ => 12 - (intOf j).toNat)
    case atStart => exact ⟨0, [], [], rfl, by omega, by omega, by omega, twin_start w3, rfl, by simp, by simp, by simp, by simp⟩
    case round =>
      obtain ⟨i, ms, ns, rfl, hi, hi1, hi2, hR⟩ := hrel
      have HR := hide hR
      have hle := hR.le
      obtain ⟨A1, c1, rfl⟩ := own_slice hR.r.o1
      obtain ⟨A2, c2, rfl⟩ := own_slice hR.r.o2
      have hbs : w3.heap.size ≤ wr.heap.size := hR.r.b.size
      have HBS := hide hbs
      have hb3 : Below w.heap.size w wr := below_wide M3.out.b hR.r.b
      have HB3 := hide hb3
      have s1 := HFB.out.below hb3
      have s2 := HTB.out.below hb3
      have HS1 := hide s1
      have HS2 := hide s2
      have HOUT : Hid (∃ ms' ns', Rl 12 w3 wr (.slice A1 ms.length c1) (.slice A2 ns.length c2) ms' ns') := hide ⟨ms, ns, ⟨hR.r, hR.len, by omega, hR.nd, hR.h1, hR.h2⟩⟩
      clear hR s1 s2 hbs hb3
      by_cases hc : i < l1.length ∧ i < l2.length ∧ i < 12
      · obtain ⟨q1, q2, q3⟩ := hc
        have d1 : decide (i < l1.length) = true := by simpa using q1
        have d1' : decide ((i : Int) < l1.length) = true := by simp; omega
        have d2 : decide (i < l2.length) = true := by simpa using q2
        have d2' : decide ((i : Int) < l2.length) = true := by simp; omega
        have d3 : decide (i < 12) = true := by simpa using q3
        have d3' : decide ((i : Int) < 12) = true := by simp; omega
        have d4 : ((i : Int) < l1.length) := by omega
        have d5 : ((i : Int) < l2.length) := by omega
        obtain ⟨x, hx⟩ : ∃ x, l1[i]? = some x := ⟨_, List.getElem?_eq_getElem q1⟩
        obtain ⟨y, hy⟩ : ∃ y, l2[i]? = some y := ⟨_, List.getElem?_eq_getElem q2⟩
        obtain ⟨adx, rfl, cx⟩ := src_at HS1.out hx
        obtain ⟨ady, rfl, cy⟩ := src_at HS2.out hy
        obtain ⟨a, ha, haa⟩ := ix_of x
        obtain ⟨b, hb, hbb⟩ := ix_of y
        have HHA := hide (has_any A1 c1 ms a wr (src_of_own HR.out.r.o1) (by omega))
        clear HS1 HS2 hx
        have HY := hide hy
        clear hy
        cases hm : decide (a ∈ ms)
        · rw [hm] at HHA
          have hnm : a ∉ ms := by simpa using hm
          have HNM := hide hnm
          clear hnm hm
          go_wp2_with fail
          simp only [haa]
          refine HHA.out.mono ?_
          rintro e w9 ⟨rfl, rfl⟩
          have HMS := hide (HR.out.r.alloc HBS.out (Obj.cells #[.int .i64 a] 3))
          clear cx
          go_wp2_with (at_builtin; go_must (refine wpList_append_own_at _ rfl (.tmp 74) (.tmp 76) 37 rfl w3.heap.size 3 ti _ 1 8 Try.underlying37 tz0 tz ts tb rfl (by decide) _ ms.length ((encL ms).map encI) rfl HMS.out.o1 ⟨wr.heap.size, 0, none⟩ 1 1 [.int .i64 a] rfl rfl (cell_one_new _ _ _) ?ones ?c63 ?cby ?cbase ?_))
          case ones => simp [Value.oneCell']
          case c63 => unfold maxLen; omega
          case cby => omega
          case cbase => have := HBS.out; simp; omega
          intro v' w5 hown hg _ hk
          rw [encL_snoc] at hown
          have HT := hide (HMS.out.left (by have := HBS.out; simp; omega) (ms' := ms ++ [a]) (by rw [List.length_append]; exact hown) hg (by rw [World.size_alloc]; exact hk))
          obtain ⟨A3, c3, rfl⟩ := own_slice hown
          have hsz := HT.out.b.size
          have HMN := hide (HT.out.alloc hsz (Obj.cells #[.int .i64 b] 3))
          have cy5 : w5.cell? (ady.add i) = some (.int .i64 y) := by
            obtain ⟨ad', e', c'⟩ := src_at (HTB.out.below (below_wide M3.out.b HT.out.b)) HY.out
            cases e'
            exact c'
          clear hown hg hk cy HMS
          go_wp2_with (at_builtin; go_must (simp only [hbb]; refine wpList_append_own_at _ rfl (.tmp 78) (.tmp 86) 37 rfl w3.heap.size 3 ti _ 1 8 Try.underlying37 tz0 tz ts tb rfl (by decide) _ ns.length ((encL ns).map encI) rfl HMN.out.o2 ⟨w5.heap.size, 0, none⟩ 1 1 [.int .i64 b] rfl rfl (cell_one_new _ _ _) ?ones ?c63 ?cby ?cbase ?_))
          case ones => simp [Value.oneCell']
          case c63 => have := HR.out.len; unfold maxLen; omega
          case cby => have := HR.out.len; omega
          case cbase => simp; omega
          intro v'' w6 hown hg _ hk
          rw [encL_snoc] at hown
          have HT2 := hide (HMN.out.right (by simp; omega) (ns' := ns ++ [b]) (by rw [List.length_append]; exact hown) hg (by rw [World.size_alloc]; exact hk))
          obtain ⟨A4, c4, rfl⟩ := own_slice hown
          have HRL : Hid (Rl (i + 1) w3 w6 (.slice A3 (ms.length + 1) c3) (.slice A4 (ns.length + 1) c4) (ms ++ [a]) (ns ++ [b])) := hide ⟨HT2.out, by simp [HR.out.len], by simp; omega, by
            rw [List.nodup_append]
            refine ⟨HR.out.nd, by simp, fun u hu v hv => ?_⟩
            simp at hv
            subst hv
            intro e
            subst e
            exact HNM.out hu, fun u hu => by
              rcases List.mem_append.1 hu with h | h
              · exact HR.out.h1 u h
              · simp at h; omega, fun u hu => by
              rcases List.mem_append.1 hu with h | h
              · exact HR.out.h2 u h
              · simp at h; omega⟩
          clear hown hg hk HT HMN HT2 cy5
          go_wp2_with fail
          go_roundw
          case rel => exact ⟨i + 1, _, _, by go_num, by omega, by omega, by omega, HRL.out⟩
          case measure => simp [intOf]; omega
        · rw [hm] at HHA
          clear hm
          have HRL : Hid (Rl (i + 1) w3 wr (.slice A1 ms.length c1) (.slice A2 ns.length c2) ms ns) := hide ⟨HR.out.r, HR.out.len, by omega, HR.out.nd, HR.out.h1, HR.out.h2⟩
          go_wp2_with fail
          simp only [haa]
          refine HHA.out.mono ?_
          rintro e w9 ⟨rfl, rfl⟩
          go_wp2_with fail
          go_roundw
          case rel => exact ⟨i + 1, _, _, by go_num, by omega, by omega, by omega, HRL.out⟩
          case measure => simp [intOf]; omega
      · rcases (show l1.length ≤ i ∨ (i < l1.length ∧ l2.length ≤ i) ∨ (i < l1.length ∧ i < l2.length ∧ 12 ≤ i) by omega) with h | ⟨h, h'⟩ | ⟨h, h', h''⟩
        · have d1 : decide (i < l1.length) = false := by simp; omega
          have d1' : decide ((i : Int) < l1.length) = false := by simp; omega
          clear hc
          go_wp2_with fail
          go_meet
          case rel => exact HOUT.out
        · have d1 : decide (i < l1.length) = true := by simpa using h
          have d1' : decide ((i : Int) < l1.length) = true := by simp; omega
          have d2 : decide (i < l2.length) = false := by simp; omega
          have d2' : decide ((i : Int) < l2.length) = false := by simp; omega
          clear hc
          go_wp2_with fail
          go_meet
          case rel => exact HOUT.out
        · have d1 : decide (i < l1.length) = true := by simpa using h
          have d1' : decide ((i : Int) < l1.length) = true := by simp; omega
          have d2 : decide (i < l2.length) = true := by simpa using h'
          have d2' : decide ((i : Int) < l2.length) = true := by simp; omega
          have d3 : decide (i < 12) = false := by simp; omega
          have d3' : decide ((i : Int) < 12) = false := by simp; omega
          clear hc
          go_wp2_with fail
          go_meet
          case rel => exact HOUT.out
  case rest =>
    obtain ⟨ms, ns, hR⟩ := hcut
    have HL1 := hide hR.h1
    have HL2 := hide hR.h2
    have HLE := hide (And.intro hR.len (And.intro hR.le hR.nd))
    obtain ⟨A1, c1, rfl⟩ := own_slice hR.r.o1
    obtain ⟨A2, c2, rfl⟩ := own_slice hR.r.o2
    have OM3 := hide (hR.r.off1 M3.out.L (Nat.le_refl _))
    have ON3 := hide (hR.r.off2 M3.out.L (Nat.le_refl _))
    have MC := hide (M3.out.below hR.r.b)
    have HC := hide (Rename_live 20 S k3 s3 f F A1 A2 c1 c2 ms ns wc MC.out.L Nf.out OM3.out.src ON3.out.src (by have := HLE.out.2.1; omega) HLE.out.1 HLE.out.2.2 (by rw [Q3.out.vs]; exact HL1.out) (by rw [Q3.out.vs]; exact HL2.out) HS20.out (Q3.out.room (n := 20) (R := walkR 20) (by decide) (by decide) (by decide)))
    rw [hp3.out] at HC
    clear hR M3
    go_wp2_with fail
    refine HC.out.mono ?_
    intro e w4 hh
    obtain ⟨k4, s4, g, he, L, T, E, Q, N⟩ := adv hh Q3.out
    subst he
    have M4 := hide (MC.out.turn L T)
    have hp4 := hide (T.p.trans hp3.out)
    have Q4 := hide (Q.wk (a' := 100663282) (b' := 665817) (c' := 43) (by decide) (by decide) (by decide))
    have Ng := hide N
    have Nfq := hide (Nf.out.ext E)
    have OM4 := hide (OM3.out.turn T)
    have ON4 := hide (ON3.out.turn T)
    clear hh L T E Q N HC MC Nf OM3 ON3
    have Nf := Nfq; clear Nfq
    go_wp2_with (at_make; (refine wpList_make_full _ rfl _ _ 23 rfl w4.heap.size 4 ui (.bool false) 1 Try.underlying23 uz0 uz us .i64 .i64 40 40 40 rfl rfl rfl rfl ?b2 ?b3 (Nat.le_refl _) ?_))
    case b2 => rw [ub]; omega
    case b3 => unfold maxLen; omega
    intro w5 hown hgr
    rw [toList_madeCells_one] at hown
    have hg5 := rep_own hown
    have hb5 : Below w4.heap.size w4 w5 := (Below.refl _ w4).grown hgr (Nat.le_refl _) (fun k hk => by cases hk)
    have hv5 := HVB.out.below (below_wide M4.out.b hb5)
    have HB5 := hide hb5
    have HG5 := hide hg5
    have HV5 := hide hv5
    clear hown hgr hb5 hg5 hv5
    go_wp2_with (with_reducible refine wpList_copy_splice rfl (.tmp 97) (.tmp 98) 23 23 rfl 4 Try.underlying23 bsz _ _ 40 40 vals.length cV rfl rfl w4.heap.size 0 (List.replicate 40 (.bool false)) 4 HG5.out ((vals.take 40).map Value.bool) ?hn ?hpos ?hfit ?h1 w4.heap.size w4 HB5.out (Nat.le_refl _) ?_)
    case hn => simp [Nat.min_comm]
    case hpos =>
      intro hpos
      first | refine ⟨rfl, ?_⟩ | skip
      obtain ⟨_, ⟨_, h0, _⟩ | ⟨ad, had, hall⟩⟩ := HV5.out
      · exfalso
        have hnil := List.eq_nil_of_length_eq_zero h0
        rw [hnil] at hpos
        exact absurd hpos (by simp)
      · refine ⟨ad, had, fun j u hj => hall j u ?_⟩
        have hj2 : ((vals.map Value.bool).take 40)[j]? = some u := by first | exact hj | (rw [← List.map_take]; exact hj)
        have hjl : j < 40 := by have := (List.getElem?_eq_some_iff.1 hj2).1; simp at this; omega
        rw [List.getElem?_take_of_lt hjl] at hj2
        exact hj2
    case hfit => simp; omega
    case h1 => intro u hu; obtain ⟨b, _, rfl⟩ := List.mem_map.1 hu; rfl
    intro w6 hh6 hb6
    have hh7 : w6.heap[w4.heap.size]? = some (.cells ((V0 vals).map Value.bool).toArray 4 (0, 0)) := by
      rw [← splice_V0]
      first | exact hh6.out | (rw [List.map_take]; exact hh6.out)
    have HV6 := hide (brow_of hh7)
    have HB6 := hide hb6
    clear hh6 hh7 hb6 HG5 HB5
    have HOE := hide (own_emptyB w6 4)
    have hsrc : ∀ j u, ((V0 vals).map Value.bool)[j]? = some u → (w6.alloc (.cells #[] 4)).cell? ((⟨w4.heap.size, 0, none⟩ : Addr).add j) = some u := by
      intro j u hj
      rw [List.getElem?_map] at hj
      obtain ⟨b, hb, rfl⟩ := Option.map_eq_some_iff.1 hj
      have := (HV6.out.below (bel_one w6 (.cells #[] 4))).cell hb
      rw [show (⟨w4.heap.size, 0, none⟩ : Addr).add j = ⟨w4.heap.size, j, none⟩ by simp [Addr.add, eq_comm]]
      exact this
    have HSR := hide hsrc
    clear hsrc
    have HVL := hide (V0_len vals)
    generalize V0 vals = V at *
    go_wp2_with (at_builtin; go_must (refine wpList_append_own _ rfl (.tmp 100) (.tmp 101) 23 rfl w6.heap.size 4 ui _ 1 1 Try.underlying23 uz0 uz us ub rfl (by decide) _ 0 [] rfl HOE.out ⟨w4.heap.size, 0, none⟩ 40 40 (V.map Value.bool) rfl ?len HSR.out ?ones ?c63 ?cby ?cbase ?_))
    case len => simp [HVL.out]
    case ones => intro u hu; obtain ⟨b, _, rfl⟩ := List.mem_map.1 hu; rfl
    case c63 => unfold maxLen; omega
    case cby => omega
    case cbase => simp
    intro v7 w7 hown hgrow _
    try rw [Nat.zero_add] at hown
    replace hown : w7.ownsRow w6.heap.size 4 1 v7 40 (V.map Value.bool) := hown
    have hb7 : Below w6.heap.size w6 w7 := ((Below.refl _ w6).alloc (Nat.le_refl _) _).grown hgrow (by simp) (fun k hk => (HOE.out.lt k hk).1)
    obtain ⟨g7, c7, rfl, hg7, _⟩ := own_full hown (by omega)
    have HW7 := hide (show BRow w7 g7 (wRen V ((ms.zip ns).take 0)) from by
      rw [List.take_zero]
      exact brow_own hown rfl)
    have HB7 := hide hb7
    have HG7 := hide hg7
    clear hown hgrow hb7 hg7 HSR HOE
    go_wp2_with fail
    have M6 := hide (M4.out.below HB6.out)
    have OM6 := hide (OM4.out.below HB6.out)
    have ON6 := hide (ON4.out.below HB6.out)
    clear M4 OM4 ON4 HV5
    have hlt46 : w4.heap.size < w6.heap.size := HV6.out.lt
    go_loopw [20] (fun j wr => ∃ i : Nat, j = .int .i64 i ∧ i ≤ ms.length ∧ Below w6.heap.size w6 wr ∧ BRow wr g7 (wRen V ((ms.zip ns).take i))) (fun j _ => ms.length - (intOf j).toNat)
    case atStart => exact ⟨0, rfl, Nat.zero_le _, HB7.out, HW7.out⟩
    case round =>
      obtain ⟨i, rfl, hi, hbr, hrow⟩ := hrel
      have HBR := hide hbr
      have HRW := hide hrow
      clear hbr hrow
      rcases Nat.lt_or_ge i ms.length with hlt | hge
      · have d1 : decide (i < ms.length) = true := by simpa using hlt
        have d1' : decide ((i : Int) < ms.length) = true := by simp; omega
        have hin := HLE.out.1
        have hlt2 : i < ns.length := by omega
        have hi12 : i < 12 := by have := HLE.out.2.1; omega
        clear hin
        have d2 : ((i : Int) < ms.length) := by omega
        have d3 : ((i : Int) < ns.length) := by omega
        obtain ⟨a, ha⟩ : ∃ a, ms[i]? = some a := ⟨_, List.getElem?_eq_getElem hlt⟩
        obtain ⟨c', hc'⟩ : ∃ c', ns[i]? = some c' := ⟨_, List.getElem?_eq_getElem hlt2⟩
        have ha40 := HL1.out a (List.mem_of_getElem? ha)
        have hc40 := HL2.out c' (List.mem_of_getElem? hc')
        have da : ((a : Int) < 40) := by omega
        have dc : ((c' : Int) < 40) := by omega
        obtain ⟨b, hb⟩ : ∃ b, V[c']? = some b := ⟨_, List.getElem?_eq_getElem (by rw [HVL.out]; exact hc40)⟩
        have hbd : Below wr.heap.size wr wr.drew := (Below.refl _ wr).drew
        obtain ⟨ad1, rfl, cx1⟩ := src_at ((OM6.out.below HBR.out).src) (i := i) (x := (a : Int)) (by unfold encL; rw [List.getElem?_map, ha]; rfl)
        obtain ⟨ad2, rfl, cx2⟩ := src_at ((ON6.out.below HBR.out).src) (i := i) (x := (c' : Int)) (by unfold encL; rw [List.getElem?_map, hc']; rfl)
        have cv := (HV6.out.below HBR.out).cell hb
        have e1 : wr.drew.cell? (ad1.add i) = some (.int .i64 a) := cx1
        have e2 : wr.drew.cell? (ad2.add i) = some (.int .i64 c') := cx2
        have e3 : wr.drew.cell? ⟨w4.heap.size, c', none⟩ = some (.bool b) := cv
        have hwl : (wRen V ((ms.zip ns).take i)).length = 40 := by rw [wRen_len, HVL.out]
        obtain ⟨b9, hb9⟩ : ∃ b9, (wRen V ((ms.zip ns).take i))[a]? = some b9 := ⟨_, List.getElem?_eq_getElem (by rw [hwl]; exact ha40)⟩
        have e4 : wr.drew.cell? ⟨g7, a, none⟩ = some (.bool b9) := HRW.out.cell hb9
        have f4 : wr.drew.frozen? ⟨g7, a, none⟩ = false := HRW.out.frozen a
        have HNX : Hid (BRow (wr.drew.setCell ⟨g7, a, none⟩ (.bool b)) g7 (wRen V ((ms.zip ns).take (i + 1)))) := hide (by
          rw [zip_take_snoc ha hc', wRen_snoc]
          have h1 := (HRW.out.below hbd).put (c := b) (x := a) (by rw [hwl]; exact ha40)
          simp only [List.getD_eq_getElem?_getD, hb, Option.getD_some]
          exact h1)
        have HNB := hide ((below_wide HBR.out hbd).setCell (p := ⟨g7, a, none⟩) HG7.out (.bool b))
        clear hb hb9 hwl ha hc' hbd cx1 cx2 cv
        go_wp2_with fail
        go_still_tail 13, (by kernel_rfl)
        change wpList _ _ _ _ _ wr.drew
        generalize wr.drew = w9 at *
        go_wp2_with fail
        go_roundw
        case rel => exact ⟨i + 1, by go_num, by omega, HNB.out, HNX.out⟩
        case measure => simp [intOf]; omega
      · have e : i = ms.length := by omega
        have d1 : decide (i < ms.length) = false := by simp; omega
        have d1' : decide ((i : Int) < ms.length) = false := by simp; omega
        have hzl : (ms.zip ns).length = ms.length := by rw [List.length_zip, ← HLE.out.1, Nat.min_self]
        have HRW2 : Hid (BRow wr g7 (wRen V (ms.zip ns))) := hide (by
          have h := HRW.out
          rw [e, ← hzl, List.take_length] at h
          exact h)
        have Mr := hide (M6.out.below HBR.out)
        have hvr := HV6.out.below HBR.out
        have HVR := hide hvr
        have hin : Hid (∀ x, imgA S (ms.zip ns) x = true → x < 40) := hide (img_lt HS40.out (zip_snd HL2.out))
        have hv256 : Hid (s4.vs ≤ 256) := hide (by rw [Q4.out.vs]; omega)
        have hm2 : Hid (s4.m + 2 ≤ 1000000000) := hide (by have := Q4.out.m; omega)
        have HWL : Hid ((wRen V (ms.zip ns)).length = 40) := hide (by rw [wRen_len, HVL.out])
        have HC := hide (At_any (imgA S (ms.zip ns)) k4 s4 g _ _ (some ⟨w4.heap.size, 0, none⟩) 40 V wr Mr.out.L.ar Ng.out.1 Ng.out.2.choose_spec (by have := HVR.out.src; rw [HVL.out] at this ⊢; exact this) (by rw [HVL.out, Q4.out.vs]) hv256.out (fun x hx => by rw [Q4.out.vs]; exact hin.out x hx) hm2.out)
        rw [hp4.out, HVL.out, ren_env F V (ms.zip ns) (fun p hp => by rw [HVL.out]; exact zip_fst HL1.out p hp)] at HC
        have HD := hide (fun (w' : World) (hb : Below wr.heap.size wr w') => At_any S k4 s4 f _ F (some ⟨g7, 0, none⟩) c7 (wRen V (ms.zip ns)) w' (Mr.out.L.below hb).ar Nf.out.1 Nf.out.2.choose_spec (by have := (HRW2.out.below hb).src; rw [HWL.out] at this ⊢; exact ⟨this.1, this.2.imp (fun h => absurd h.2.1 (by omega)) id⟩) (by rw [HWL.out, Q4.out.vs]) hv256.out (fun x hx => by rw [Q4.out.vs]; exact HS40.out x hx) hm2.out)
        rw [hp4.out, HWL.out] at HD
        clear e hzl hvr
        go_wp2_with fail
        refine HC.out.mono ?_
        rintro e wa ⟨rfl, hb⟩
        have Ma := hide (Mr.out.below hb)
        have HC := hide (HD.out wa hb)
        generalize F (envOf (wRen V (ms.zip ns))) = bv at *
        clear hb HD Mr
        go_wp2_with fail
        refine HC.out.mono ?_
        rintro e wb ⟨rfl, hb⟩
        have Mb := hide (Ma.out.below hb)
        clear hb HC Ma HRW2 HVR HRW HBR HV6 HB6 HB7 HG7 M6 OM6 ON6 Ng HL1 HL2 HLE
        have hbb : (bv != bv) = false := by cases bv <;> rfl
        go_wp2_with fail
        have hstart := hide (twin_start wb)
        go_loopw [25, 26, 27] (fun v u j wr => ∃ n m : Nat, j = .int .i64 n ∧ n = 2 * m ∧ n ≤ 40 ∧ Twin wb.heap.size wb wr v u (evL n) (odL n)) (fun _ _ j _ => 40 - (intOf j).toNat)
        case atStart => exact ⟨0, 0, rfl, rfl, by omega, hstart.out⟩
        case round =>
          obtain ⟨n, m, rfl, hnm, hn40, hT⟩ := hrel
          have HNM := hide hnm
          clear hnm
          have hsz := hT.b.size
          obtain ⟨A3, c3, rfl⟩ := own_slice hT.o1
          obtain ⟨A4, c4, rfl⟩ := own_slice hT.o2
          have ho1 := hT.o1
          have ho2 := hT.o2
          rw [evL_len] at ho1 hT ⊢
          rw [odL_len] at ho2 hT ⊢
          have HT := hide hT
          have HO1 := hide ho1
          have HO2 := hide ho2
          clear hT ho1 ho2
          rcases Nat.lt_or_ge n 40 with hlt | hge
          · have d1 : decide (n < 40) = true := by simpa using hlt
            have d1' : decide ((n : Int) < 40) = true := by simp; omega
            go_wp2_with (at_builtin; go_must (refine wpList_append_own_at _ rfl (.tmp 155) (.tmp 159) 37 rfl wb.heap.size 3 ti _ 1 8 Try.underlying37 tz0 tz ts tb rfl (by decide) _ n ((encL (evL n)).map encI) rfl (HO1.out.alloc _) ⟨wr.heap.size, 0, none⟩ 2 2 [.int .i64 n, .int .i64 ((n : Int) + 1)] rfl rfl (cell_two_new _ _ _ _) ?ones ?c63 ?cby ?cbase ?_))
            case ones => simp [Value.oneCell']
            case c63 => unfold maxLen; omega
            case cby => omega
            case cbase => simp; omega
            intro v' w5 hown hg _ hk
            rw [ev_row HNM.out] at hown
            have HT2 := hide ((HT.out.alloc hsz _).left (by simp; omega) (ms' := evL (n + 2)) (by rw [evL_len]; exact hown) hg (by rw [World.size_alloc]; exact hk))
            have HE := hide hown
            obtain ⟨A5, c5, rfl⟩ := own_slice hown
            have hsz5 := HT2.out.b.size
            have ho5 := HT2.out.o2
            rw [odL_len] at ho5
            have HO5 := hide ho5
            clear hown hg hk ho5
            go_wp2_with (at_builtin; go_must (refine wpList_append_own_at _ rfl (.tmp 161) (.tmp 165) 37 rfl wb.heap.size 3 ti _ 1 8 Try.underlying37 tz0 tz ts tb rfl (by decide) _ n ((encL (odL n)).map encI) rfl (HO5.out.alloc _) ⟨w5.heap.size, 0, none⟩ 2 2 [.int .i64 ((n : Int) + 1), .int .i64 n] rfl rfl (cell_two_new _ _ _ _) ?ones ?c63 ?cby ?cbase ?_))
            case ones => simp [Value.oneCell']
            case c63 => unfold maxLen; omega
            case cby => omega
            case cbase => simp; omega
            intro v'' w6' hown hg _ hk
            rw [od_row HNM.out (by have := HNM.out; omega)] at hown
            have HT3 := hide ((HT2.out.alloc hsz5 _).right (by simp; omega) (ns' := odL (n + 2)) (by rw [odL_len]; exact hown) hg (by rw [World.size_alloc]; exact hk))
            obtain ⟨A6, c6, rfl⟩ := own_slice hown
            have hn2 : n + 2 ≤ 40 := by have := HNM.out; omega
            have HN2 : Hid (n + 2 = 2 * (m + 1)) := hide (by have := HNM.out; omega)
            clear hown hg hk HT2 HO5 HE
            go_wp2_with fail
            go_roundw
            case rel => exact ⟨n + 2, m + 1, by go_num, HN2.out, hn2, HT3.out⟩
            case measure => simp [intOf]; omega
          · have e : n = 40 := by omega
            subst e
            have d1 : decide ((40 : Int) < 40) = false := by decide
            have OE := hide (HT.out.off1 Mb.out.L (Nat.le_refl _))
            have OD := hide (HT.out.off2 Mb.out.L (Nat.le_refl _))
            rw [evL_len] at OE
            rw [odL_len] at OD
            have Mr := hide (Mb.out.below HT.out.b)
            have HC := hide (Rename_live 20 S k4 s4 f F A3 A4 c3 c4 (evL 40) (odL 40) wr Mr.out.L Nf.out (by rw [evL_len]; exact OE.out.src) (by rw [odL_len]; exact OD.out.src) (by rw [evL_len]; omega) (by rw [evL_len, odL_len]) evL_nodup (by rw [Q4.out.vs]; exact evL_lt) (by rw [Q4.out.vs]; exact odL_lt) HS20.out (Q4.out.room (n := 20) (R := walkR 20) (by decide) (by decide) (by decide)))
            rw [hp4.out, evL_len, odL_len] at HC
            clear Mb HT HO1 HO2 hge HNM hn40
            go_wp2_with fail
            refine HC.out.mono ?_
            intro e w8 hh
            obtain ⟨k5, s5, h, he, L, T, E, Q, N⟩ := adv hh Q4.out
            subst he
            have M8 := hide (Mr.out.turn L T)
            have hp5 := hide (T.p.trans hp4.out)
            have Q5 := hide (Q.wk (a' := 184549364) (b' := 797144) (c' := 44) (by decide) (by decide) (by decide))
            have Nh := hide N
            have Nfq := hide (Nf.out.ext E)
            have OEq := hide (OE.out.turn T)
            have ODq := hide (OD.out.turn T)
            clear hh L T E Q N HC Mr Nf OE OD
            have Nf := Nfq; clear Nfq
            have HI := hide (swap_img HS40.out)
            have HC := hide (Rename_live 20 (imgA S ((evL 40).zip (odL 40))) k5 s5 h _ A3 A4 c3 c4 (evL 40) (odL 40) w8 M8.out.L Nh.out (by rw [evL_len]; exact OEq.out.src) (by rw [odL_len]; exact ODq.out.src) (by rw [evL_len]; omega) (by rw [evL_len, odL_len]) evL_nodup (by rw [Q5.out.vs]; exact evL_lt) (by rw [Q5.out.vs]; exact odL_lt) (img_n HS20.out) (Q5.out.room (n := 20) (R := walkR 20) (by decide) (by decide) (by decide)))
            rw [hp5.out, evL_len, odL_len] at HC
            go_wp2_with fail
            refine HC.out.mono ?_
            intro e w9 hh
            obtain ⟨k6, s6, kk, he, L, T, E, Q, N⟩ := adv hh Q5.out
            subst he
            have M9 := hide (M8.out.turn L T)
            have hp6 := hide (T.p.trans hp5.out)
            have Q6 := hide (Q.wk (a' := 268435446) (b' := 928471) (c' := 45) (by decide) (by decide) (by decide))
            have Nhq := hide (Nh.out.ext E)
            have E1 : kk = f := Nod.eq L (by have h1 := N; rw [swap_twice Nf.out HS40.out] at h1; exact h1) (Nf.out.ext E)
            subst E1
            have HC := hide (turned_any 1 k6 s6 A c ops w w9 M9.out HSB.out HOB.out (by omega) (by rw [Q6.out.vs]; omega) (by rw [budm_40]; have := Q6.out.m; omega) (by have := Q6.out.gn; omega) (by rw [bud_40, Q6.out.ms]; have := Q6.out.hn; omega))
            rw [hp6.out] at HC
            clear hh L T E Q N M8 Nh OEq ODq HI
            go_wp2_with fail
            refine HC.out.mono ?_
            intro e wf hh
            obtain ⟨k7, s7, r, S7, he, L, T, E, Q, hS20, hS32, N⟩ := adv_made hh Q6.out
            subst he
            have E2 : h = r := Nod.eq L (Nhq.out.ext E) (by
              have h1 := N
              rw [madeF_flip, HFE.out, ← swap_turn Nf.out HS40.out] at h1
              exact h1)
            subst E2
            have HB := hide (M9.out.turn L T).b
            clear hh L T E Q N hS20 hS32 M9
            go_wp2_with fail
            go_ret
            exact ⟨rfl, HB.out⟩
end Go.Proofs.Ytgfjdkkfgclhjaa.Bd
