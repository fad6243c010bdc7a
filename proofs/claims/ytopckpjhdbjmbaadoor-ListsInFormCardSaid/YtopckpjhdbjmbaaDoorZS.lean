/- The reference's form of a row, in plain words: always the least that is not there yet. No program is in sight. -/
import Derived.Test.YtopckpjhdbjmbaaDoorZL
namespace Go.Proofs.YtopckpjhdbjmbaaDoor.Ld
open Go

/-- one pass: is there one that is not there yet, and which is the least? -/
def scanM (os : List Int) : List Int → Bool × Int → Bool × Int
  | [], s => s
  | x :: xs, s => scanM os xs (if !decide (x ∈ os) && (!s.1 || decide (x < s.2)) then (true, x) else s)
def ScanOk (os pre : List Int) (s : Bool × Int) : Prop :=
  (s.1 = false → ∀ x ∈ pre, x ∈ os) ∧ (s.1 = true → s.2 ∈ pre ∧ s.2 ∉ os ∧ ∀ x ∈ pre, x ∉ os → s.2 ≤ x)
theorem scan_ok (os : List Int) : ∀ (l pre : List Int) (s : Bool × Int), ScanOk os pre s → ScanOk os (pre ++ l) (scanM os l s) := by
  intro l
  induction l with
  | nil => intro pre s h; simpa [scanM] using h
  | cons x xs ih =>
    intro pre s h
    rw [show pre ++ x :: xs = (pre ++ [x]) ++ xs by simp, scanM]
    refine ih _ _ ?_
    obtain ⟨f, m⟩ := s
    obtain ⟨h1, h2⟩ := h
    by_cases hx : x ∈ os
    · rw [show (!decide (x ∈ os) && (!f || decide (x < m))) = false by simp [hx]]
      refine ⟨fun e y hy => ?_, fun e => ?_⟩
      · rcases List.mem_append.1 hy with hy | hy
        · exact h1 e y hy
        · rw [List.mem_singleton.1 hy]; exact hx
      · obtain ⟨a, b, c⟩ := h2 e
        refine ⟨List.mem_append_left _ a, b, fun y hy hn => ?_⟩
        rcases List.mem_append.1 hy with hy | hy
        · exact c y hy hn
        · rw [List.mem_singleton.1 hy] at hn; exact absurd hx hn
    · cases f with
      | false =>
        rw [show (!decide (x ∈ os) && (!false || decide (x < m))) = true by simp [hx]]
        refine ⟨fun e => (by cases e), fun _ => ⟨List.mem_append_right _ (List.mem_singleton_self _), hx, fun y hy hn => ?_⟩⟩
        rcases List.mem_append.1 hy with hy | hy
        · exact absurd (h1 rfl y hy) hn
        · rw [List.mem_singleton.1 hy]; exact Int.le_refl _
      | true =>
        obtain ⟨a, b, c⟩ := h2 rfl
        by_cases hl : x < m
        · rw [show (!decide (x ∈ os) && (!true || decide (x < m))) = true by simp [hx, hl]]
          refine ⟨fun e => (by cases e), fun _ => ⟨List.mem_append_right _ (List.mem_singleton_self _), hx, fun y hy hn => ?_⟩⟩
          rcases List.mem_append.1 hy with hy | hy
          · have := c y hy hn; show x ≤ y; simp only at this; omega
          · rw [List.mem_singleton.1 hy]; exact Int.le_refl _
        · rw [show (!decide (x ∈ os) && (!true || decide (x < m))) = false by simp [hl]]
          refine ⟨fun e => (by cases e), fun _ => ⟨List.mem_append_left _ a, b, fun y hy hn => ?_⟩⟩
          rcases List.mem_append.1 hy with hy | hy
          · exact c y hy hn
          · rw [List.mem_singleton.1 hy]; show m ≤ x; omega
theorem scan_all (os zs : List Int) : ScanOk os zs (scanM os zs (false, 0)) := by
  have := scan_ok os zs [] (false, 0) ⟨fun _ x hx => (by cases hx), fun e => (by cases e)⟩
  simpa using this
/-- what the rounds keep: so far rising, all of the row, and all that is missing lies above -/
structure Part (zs os : List Int) : Prop where
  up : Up os
  sub : ∀ y ∈ os, y ∈ zs
  abv : ∀ x ∈ zs, x ∉ os → ∀ y ∈ os, y < x
theorem Part.nil (zs : List Int) : Part zs [] := ⟨List.Pairwise.nil, fun _ h => (by cases h), fun _ _ _ _ h => (by cases h)⟩
theorem Part.more {zs os : List Int} (h : Part zs os) {m : Int} (hs : scanM os zs (false, 0) = (true, m)) : Part zs (os ++ [m]) := by
  have hk := scan_all os zs
  rw [hs] at hk
  obtain ⟨a, b, c⟩ := hk.2 rfl
  refine ⟨List.pairwise_append.2 ⟨h.up, List.pairwise_singleton _ _, fun y hy z hz => ?_⟩, fun y hy => ?_, fun x hx hn y hy => ?_⟩
  · rw [List.mem_singleton.1 hz]; exact h.abv m a b y hy
  · rcases List.mem_append.1 hy with hy | hy
    · exact h.sub y hy
    · rw [List.mem_singleton.1 hy]; exact a
  · have hn1 : x ∉ os := fun e => hn (List.mem_append_left _ e)
    have hn2 : x ≠ m := fun e => hn (List.mem_append_right _ (by rw [e]; exact List.mem_singleton_self _))
    rcases List.mem_append.1 hy with hy | hy
    · exact h.abv x hx hn1 y hy
    · rw [List.mem_singleton.1 hy]
      have := c x hx hn1
      simp only at this
      omega
theorem Part.done {zs os : List Int} (h : Part zs os) {m : Int} (hs : scanM os zs (false, 0) = (false, m)) : os = normL zs := by
  have hk := scan_all os zs
  rw [hs] at hk
  exact norm_is h.up (fun x => ⟨h.sub x, hk.1 rfl x⟩)
def missing (zs os : List Int) : Nat := (zs.filter fun x => !decide (x ∈ os)).length
theorem missing_less {zs os : List Int} {m : Int} (hs : scanM os zs (false, 0) = (true, m)) : missing zs (os ++ [m]) < missing zs os := by
  have hk := scan_all os zs
  rw [hs] at hk
  obtain ⟨a, b, c⟩ := hk.2 rfl
  have e : (zs.filter fun x => !decide (x ∈ os ++ [m])) = (zs.filter fun x => !decide (x ∈ os)).filter (fun x => !decide (x = m)) := by
    rw [List.filter_filter]
    congr 1
    funext x
    by_cases h1 : x ∈ os <;> by_cases h2 : x = m <;> simp [h1, h2]
  unfold missing
  rw [e]
  have hm : m ∈ zs.filter fun x => !decide (x ∈ os) := List.mem_filter.2 ⟨a, by simpa using b⟩
  rw [← List.countP_eq_length_filter]
  refine Nat.lt_of_le_of_ne (List.countP_le_length) (fun e => ?_)
  have := List.countP_eq_length.1 e m hm
  simp at this
theorem nodup_len : ∀ (a b : List Int), a.Nodup → (∀ x ∈ a, x ∈ b) → a.length ≤ b.length := by
  intro a
  induction a with
  | nil => intro b _ _; simp
  | cons x xs ih =>
    intro b h hs
    have h' := List.nodup_cons.1 h
    have hx := hs x (List.mem_cons_self ..)
    have := ih (b.erase x) h'.2 (fun y hy => (List.mem_erase_of_ne (fun e => by rw [e] at hy; exact h'.1 hy)).2 (hs y (List.mem_cons_of_mem _ hy)))
    rw [List.length_erase_of_mem hx] at this
    have : 0 < b.length := List.length_pos_of_mem hx
    simp only [List.length_cons]
    omega
theorem up_len {a b : List Int} (h : Up a) (hs : ∀ x ∈ a, x ∈ b) : a.length ≤ b.length :=
  nodup_len a b (h.imp (fun h => by omega)) hs
end Go.Proofs.YtopckpjhdbjmbaaDoor.Ld
