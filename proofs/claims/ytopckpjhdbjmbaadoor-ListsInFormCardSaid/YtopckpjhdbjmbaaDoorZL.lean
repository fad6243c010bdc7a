/- Plain words on rows of numbers: a row in form (each number once, rising). No program is in sight. -/
import Derived.Lib.SlicesCompact
namespace Go.Proofs.YtopckpjhdbjmbaaDoor.Ld
open Go

def leI (x y : Int) : Bool := decide (x ≤ y)
/-- the form of a row: sorted, each number once -/
def normL (l : List Int) : List Int := Lib.compact (l.mergeSort fun x y => decide (x ≤ y))
/-- rising -/
def Up (l : List Int) : Prop := l.Pairwise (· < ·)

theorem up_eq : ∀ (a b : List Int), Up a → Up b → (∀ x, x ∈ a ↔ x ∈ b) → a = b := by
  intro a
  induction a with
  | nil =>
    intro b _ _ h
    cases b with
    | nil => rfl
    | cons y ys => exact absurd ((h y).2 (List.mem_cons_self ..)) (by simp)
  | cons x xs ih =>
    intro b ha hb h
    cases b with
    | nil => exact absurd ((h x).1 (List.mem_cons_self ..)) (by simp)
    | cons y ys =>
      have ha' := List.pairwise_cons.1 ha
      have hb' := List.pairwise_cons.1 hb
      have hxy : x = y := by
        have h1 := (h x).1 (List.mem_cons_self ..)
        have h2 := (h y).2 (List.mem_cons_self ..)
        rcases List.mem_cons.1 h1 with h1 | h1
        · exact h1
        · rcases List.mem_cons.1 h2 with h2 | h2
          · exact h2.symm
          · have := ha'.1 y h2
            have := hb'.1 x h1
            omega
      subst hxy
      congr 1
      refine ih ys ha'.2 hb'.2 (fun z => ⟨fun hz => ?_, fun hz => ?_⟩)
      · rcases List.mem_cons.1 ((h z).1 (List.mem_cons_of_mem _ hz)) with e | e
        · have := ha'.1 z hz; omega
        · exact e
      · rcases List.mem_cons.1 ((h z).2 (List.mem_cons_of_mem _ hz)) with e | e
        · have := hb'.1 z hz; omega
        · exact e

theorem get_bang (l : List Int) (j : Nat) (h : j < l.length) : l.toArray[j]! = l[j] := by
  rw [getElem!_pos l.toArray j (by simpa using h)]
  simp

theorem comp_inv (l : List Int) (hs : l.Pairwise (fun x y => x ≤ y)) : ∀ m, m ≤ l.length →
    Up (Lib.compactUpTo l.toArray m) ∧ (∀ x, x ∈ Lib.compactUpTo l.toArray m ↔ x ∈ l.take m) := by
  intro m
  induction m with
  | zero => intro _; exact ⟨List.Pairwise.nil, fun x => by simp [Lib.compactUpTo]⟩
  | succ m ih =>
    intro hm
    obtain ⟨h1, h2⟩ := ih (by omega)
    rw [Lib.compactUpTo_succ, get_bang l m (by omega)]
    have ht : l.take (m + 1) = l.take m ++ [l[m]] := (List.take_append_getElem (by omega)).symm
    by_cases hk : Lib.keeps l.toArray m = true
    · rw [if_pos hk]
      refine ⟨List.pairwise_append.2 ⟨h1, List.pairwise_singleton _ _, fun a ha b hb => ?_⟩, fun x => ?_⟩
      · have hb' : b = l[m] := by simpa using hb
        subst hb'
        rcases Nat.eq_zero_or_pos m with rfl | hm0
        · simp [Lib.compactUpTo] at ha
        · have ha2 := (h2 a).1 ha
          obtain ⟨i, hi, rfl⟩ := List.mem_iff_getElem.1 ha2
          have hi' : i < m := by simp at hi; omega
          rw [List.getElem_take]
          have e1 : l[i] ≤ l[m - 1] := by
            rcases Nat.lt_or_ge i (m - 1) with h | h
            · exact List.pairwise_iff_getElem.1 hs i (m - 1) _ _ h
            · have : i = m - 1 := by omega
              subst this; exact Int.le_refl _
          have e2 : l[m - 1] ≤ l[m] := List.pairwise_iff_getElem.1 hs (m - 1) m _ _ (by omega)
          have e3 : l[m] ≠ l[m - 1] := by
            unfold Lib.keeps at hk
            rw [get_bang l m (by omega), get_bang l (m - 1) (by omega)] at hk
            have := of_decide_eq_true hk
            omega
          omega
      · rw [List.mem_append, h2, ht, List.mem_append]
    · rw [if_neg hk, List.append_nil]
      refine ⟨h1, fun x => ?_⟩
      rw [h2, ht, List.mem_append]
      refine ⟨.inl, fun h => ?_⟩
      rcases h with h | h
      · exact h
      · have hx : x = l[m] := by simpa using h
        unfold Lib.keeps at hk
        have hm0 : m ≠ 0 := fun e => hk (by simp [e])
        rw [get_bang l m (by omega), get_bang l (m - 1) (by omega)] at hk
        have e : l[m] = l[m - 1] := by
          by_cases e : l[m] = l[m - 1]
          · exact e
          · exact absurd (decide_eq_true (.inr e)) hk
        rw [hx, e, List.mem_iff_getElem]
        exact ⟨m - 1, by simp; omega, by rw [List.getElem_take]⟩
theorem sort_sorted (l : List Int) : (l.mergeSort fun x y => decide (x ≤ y)).Pairwise (fun x y => x ≤ y) := by
  have h := List.pairwise_mergeSort (le := fun (x y : Int) => decide (x ≤ y)) (fun a b c h1 h2 => by simp at *; omega) (fun a b => by simp; omega) l
  exact h.imp (fun h => by simpa using h)
theorem sort_len (l : List Int) : (l.mergeSort fun x y => decide (x ≤ y)).length = l.length := List.length_mergeSort l
theorem norm_up (l : List Int) : Up (normL l) := (comp_inv _ (sort_sorted l) _ (Nat.le_refl _)).1
theorem norm_mem (l : List Int) (x : Int) : x ∈ normL l ↔ x ∈ l := by
  have h := (comp_inv _ (sort_sorted l) _ (Nat.le_refl _)).2 x
  rw [List.take_length] at h
  exact h.trans List.mem_mergeSort
theorem norm_is {l a : List Int} (h1 : Up a) (h2 : ∀ x, x ∈ a ↔ x ∈ l) : a = normL l := up_eq _ _ h1 (norm_up l) (fun x => by rw [h2, norm_mem])
theorem norm_same {l m : List Int} (h : ∀ x, x ∈ l ↔ x ∈ m) : normL l = normL m := norm_is (norm_up l) (fun x => by rw [norm_mem, h])
theorem norm_norm (l : List Int) : normL (normL l) = normL l := norm_same (fun x => norm_mem l x)
theorem norm_len (l : List Int) : (normL l).length ≤ l.length := by
  have h : (normL l).length ≤ (l.mergeSort fun x y => decide (x ≤ y)).length := by
    show (Lib.compactUpTo _ _).length ≤ _
    unfold Lib.compactUpTo
    rw [List.length_map]
    refine Nat.le_trans (List.length_filter_le _ _) ?_
    simp
  rwa [sort_len] at h
end Go.Proofs.YtopckpjhdbjmbaaDoor.Ld
