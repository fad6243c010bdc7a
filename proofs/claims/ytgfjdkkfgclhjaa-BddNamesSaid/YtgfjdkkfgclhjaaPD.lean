/- Counting along a rising list of variables, in plain words. No program is in sight. -/
import Derived.Test.YtgfjdkkfgclhjaaPC
namespace Go.Proofs.Ytgfjdkkfgclhjaa.Bd

abbrev Rise (l : List Nat) : Prop := l.Pairwise (· < ·)
/-- the variables of the list from t on, and how many there are ahead -/
def fromL (ov : List Nat) (t : Nat) : List Nat := ov.filter fun x => decide (t ≤ x)
def plc (ov : List Nat) (t : Nat) : Nat := (ov.filter fun x => decide (x < t)).length
theorem fromL_zero (ov : List Nat) : fromL ov 0 = ov := by unfold fromL; simp
theorem plc_zero (ov : List Nat) : plc ov 0 = 0 := by
  unfold plc
  rw [List.length_eq_zero_iff, List.filter_eq_nil_iff]
  intro x _; simp
theorem mem_fromL {ov : List Nat} {t x : Nat} : x ∈ fromL ov t ↔ x ∈ ov ∧ t ≤ x := by unfold fromL; simp
theorem split_at : ∀ {ov : List Nat}, Rise ov → ∀ {a b : Nat}, a ≤ b → fromL ov a = (ov.filter fun x => decide (a ≤ x ∧ x < b)) ++ fromL ov b := by
  intro ov
  induction ov with
  | nil => intro _ a b _; rfl
  | cons x xs ih =>
    intro h a b hab
    obtain ⟨h1, h2⟩ := List.pairwise_cons.1 h
    have e := ih h2 hab
    unfold fromL at e ⊢
    simp only [List.filter_cons]
    by_cases c1 : a ≤ x
    · by_cases c2 : x < b
      · rw [if_pos (by simpa using c1), if_pos (by simpa using ⟨c1, c2⟩), if_neg (by simpa using c2), e]
        rfl
      · have e1 : (xs.filter fun x => decide (a ≤ x ∧ x < b)) = [] := by
          rw [List.filter_eq_nil_iff]
          intro y hy
          have := h1 y hy
          simp; omega
        rw [if_pos (by simpa using c1), if_neg (by simp; omega), if_pos (by simp; omega), e, e1]
        rfl
    · rw [if_neg (by simpa using c1), if_neg (by simp; omega), if_neg (by simp; omega), e]
theorem plc_add : ∀ (ov : List Nat) {a b : Nat}, a ≤ b → plc ov b = plc ov a + (ov.filter fun x => decide (a ≤ x ∧ x < b)).length := by
  intro ov
  induction ov with
  | nil => intro a b _; rfl
  | cons x xs ih =>
    intro a b hab
    have e := ih hab
    unfold plc at e ⊢
    simp only [List.filter_cons]
    by_cases c1 : a ≤ x
    · by_cases c2 : x < b
      · rw [if_pos (by simpa using c2), if_neg (by simp; omega), if_pos (by simpa using ⟨c1, c2⟩)]
        simp only [List.length_cons]; omega
      · rw [if_neg (by simp; omega), if_neg (by simp; omega), if_neg (by simp; omega)]; exact e
    · rw [if_pos (by simp; omega), if_pos (by simp; omega), if_neg (by simp; omega)]
      simp only [List.length_cons]; omega
theorem one_at {ov : List Nat} (h : Rise ov) {t : Nat} (ht : t ∈ ov) : (ov.filter fun x => decide (t ≤ x ∧ x < t + 1)) = [t] := by
  induction ov with
  | nil => cases ht
  | cons x xs ih =>
    obtain ⟨h1, h2⟩ := List.pairwise_cons.1 h
    simp only [List.filter_cons]
    by_cases e : x = t
    · subst e
      rw [if_pos (by simp)]
      congr 1
      rw [List.filter_eq_nil_iff]
      intro y hy
      have := h1 y hy
      simp; omega
    · rw [if_neg (by simp; omega)]
      refine ih h2 ?_
      rcases List.mem_cons.1 ht with h | h
      · exact absurd h.symm e
      · exact h
theorem fromL_at {ov : List Nat} (h : Rise ov) {t : Nat} (ht : t ∈ ov) : fromL ov t = t :: fromL ov (t + 1) := by
  rw [split_at h (Nat.le_succ t), one_at h ht]; rfl
theorem plc_at {ov : List Nat} (h : Rise ov) {t : Nat} (ht : t ∈ ov) : plc ov (t + 1) = plc ov t + 1 := by
  rw [plc_add ov (Nat.le_succ t), one_at h ht]; rfl
theorem plc_le (ov : List Nat) (t : Nat) : plc ov t ≤ ov.length := List.length_filter_le _ _
theorem plc_mono (ov : List Nat) {a b : Nat} (h : a ≤ b) : plc ov a ≤ plc ov b := by rw [plc_add ov h]; omega
theorem plc_all {ov : List Nat} {t : Nat} (h : ∀ x ∈ ov, x < t) : plc ov t = ov.length := by
  unfold plc
  rw [List.filter_eq_self.2 (fun x hx => by simpa using h x hx)]
theorem fromL_len {ov : List Nat} (t : Nat) : (fromL ov t).length + plc ov t = ov.length := by
  unfold fromL plc
  induction ov with
  | nil => rfl
  | cons x xs ih =>
    simp only [List.filter_cons]
    by_cases c : t ≤ x
    · rw [if_pos (by simpa using c), if_neg (by simp; omega)]; simp only [List.length_cons]; omega
    · rw [if_neg (by simpa using c), if_pos (by simp; omega)]; simp only [List.length_cons]; omega
/-- what stands ahead of its first variable counts twice each -/
theorem cnt_skip {ov : List Nat} (h : Rise ov) {F : Env → Bool} {a t : Nat} (hat : a ≤ t) (hF : ∀ v, v < t → ∀ ρ b, F (upd ρ v b) = F ρ) (ρ : Env) : cntL F (fromL ov a) ρ = cntL F (fromL ov t) ρ * 2 ^ (plc ov t - plc ov a) := by
  rw [split_at h hat, cntL_frees _ _ _ (fun v hv => hF v (by have := (List.mem_filter.1 hv).2; simp at this; omega)), plc_add ov hat, Nat.mul_comm]
  congr 2
  omega
/-- a node's count, out of its halves' -/
theorem cnt_node {ov : List Nat} (h : Rise ov) {Fl Fh : Env → Bool} {t tl th : Nat} (ht : t ∈ ov) (h1 : t < tl) (h2 : t < th) (hl : ∀ v, v < tl → ∀ ρ b, Fl (upd ρ v b) = Fl ρ) (hh : ∀ v, v < th → ∀ ρ b, Fh (upd ρ v b) = Fh ρ) (ρ : Env) :
    cntL (fun ρ => if ρ t then Fh ρ else Fl ρ) (fromL ov t) ρ = cntL Fl (fromL ov tl) ρ * 2 ^ (plc ov tl - plc ov t - 1) + cntL Fh (fromL ov th) ρ * 2 ^ (plc ov th - plc ov t - 1) := by
  rw [fromL_at h ht, cntL_node (hl t h1) (hh t h2) _ (fun hx => by have := (mem_fromL.1 hx).2; omega), cnt_skip h (show t + 1 ≤ tl from h1) hl, cnt_skip h (show t + 1 ≤ th from h2) hh, plc_at h ht]
  congr 3 <;> omega
theorem cnt_lt {ov : List Nat} (F : Env → Bool) (t : Nat) (ρ : Env) (hn : ov.length ≤ 127) : cntL F (fromL ov t) ρ * 2 ^ plc ov t < 340282366920938463463374607431768211456 ∧ cntL F (fromL ov t) ρ * 2 ^ plc ov t ≤ 170141183460469231731687303715884105728 := by
  have h1 := cntL_le F (fromL ov t) ρ
  have h2 := Nat.mul_le_mul_right (2 ^ plc ov t) h1
  rw [← Nat.pow_add, fromL_len] at h2
  have h3 : 2 ^ ov.length ≤ 2 ^ 127 := Nat.pow_le_pow_right (by omega) hn
  have h4 : 2 ^ 127 = 170141183460469231731687303715884105728 := by decide
  omega
end Go.Proofs.Ytgfjdkkfgclhjaa.Bd
