/- For how many values a function is true, in plain words. No program is in sight. -/
import Derived.Test.YtgfjdkkfgclhjaaPO
namespace Go.Proofs.Ytgfjdkkfgclhjaa.Bd

def cntL (F : Env → Bool) : List Nat → Env → Nat
  | [], ρ => if F ρ then 1 else 0
  | v :: vs, ρ => cntL F vs (upd ρ v false) + cntL F vs (upd ρ v true)
theorem cntL_le (F : Env → Bool) : ∀ (l : List Nat) (ρ : Env), cntL F l ρ ≤ 2 ^ l.length := by
  intro l
  induction l with
  | nil => intro ρ; unfold cntL; split <;> simp
  | cons v vs ih =>
    intro ρ
    have h1 := ih (upd ρ v false)
    have h2 := ih (upd ρ v true)
    simp only [cntL, List.length_cons, Nat.pow_succ]
    omega
theorem cntL_not (F : Env → Bool) : ∀ (l : List Nat) (ρ : Env), cntL F l ρ + cntL (fun ρ => !F ρ) l ρ = 2 ^ l.length := by
  intro l
  induction l with
  | nil => intro ρ; unfold cntL; cases F ρ <;> simp
  | cons v vs ih =>
    intro ρ
    have h1 := ih (upd ρ v false)
    have h2 := ih (upd ρ v true)
    simp only [cntL, List.length_cons, Nat.pow_succ]
    omega
/-- what F doesn't see may be put in -/
theorem cntL_upd {F : Env → Bool} {v : Nat} (h : ∀ ρ b, F (upd ρ v b) = F ρ) (b : Bool) : ∀ (l : List Nat) (ρ : Env), cntL F l (upd ρ v b) = cntL F l ρ := by
  intro l
  induction l with
  | nil => intro ρ; unfold cntL; rw [h]
  | cons x xs ih =>
    intro ρ
    simp only [cntL]
    by_cases e : v = x
    · subst e; simp only [upd_twice]
    · rw [upd_swap ρ b false e, upd_swap ρ b true e, ih, ih]
theorem cntL_free {F : Env → Bool} {v : Nat} (h : ∀ ρ b, F (upd ρ v b) = F ρ) (l : List Nat) (ρ : Env) : cntL F (v :: l) ρ = 2 * cntL F l ρ := by
  simp only [cntL, cntL_upd h]
  omega
theorem cntL_frees {F : Env → Bool} : ∀ (l1 l2 : List Nat) (ρ : Env), (∀ v ∈ l1, ∀ ρ b, F (upd ρ v b) = F ρ) → cntL F (l1 ++ l2) ρ = 2 ^ l1.length * cntL F l2 ρ := by
  intro l1
  induction l1 with
  | nil => intro l2 ρ _; simp
  | cons v vs ih =>
    intro l2 ρ h
    rw [List.cons_append, cntL_free (h v (by simp)), ih l2 ρ (fun x hx => h x (by simp [hx])), List.length_cons, Nat.pow_succ]
    rw [Nat.mul_comm (2 ^ vs.length) 2, Nat.mul_assoc]
theorem cntL_if {F G : Env → Bool} {v : Nat} {b : Bool} (h : ∀ ρ : Env, ρ v = b → F ρ = G ρ) : ∀ (l : List Nat) (ρ : Env), v ∉ l → ρ v = b → cntL F l ρ = cntL G l ρ := by
  intro l
  induction l with
  | nil => intro ρ _ e; unfold cntL; rw [h ρ e]
  | cons x xs ih =>
    intro ρ hv e
    have hx : v ≠ x := fun e => hv (by simp [e])
    have hxs : v ∉ xs := fun e => hv (by simp [e])
    simp only [cntL]
    rw [ih _ hxs (by rw [upd_other _ _ hx]; exact e), ih _ hxs (by rw [upd_other _ _ hx]; exact e)]
/-- a node's count -/
theorem cntL_node {v : Nat} {Fl Fh : Env → Bool} (hl : ∀ ρ b, Fl (upd ρ v b) = Fl ρ) (hh : ∀ ρ b, Fh (upd ρ v b) = Fh ρ) (l : List Nat) (hv : v ∉ l) (ρ : Env) : cntL (fun ρ => if ρ v then Fh ρ else Fl ρ) (v :: l) ρ = cntL Fl l ρ + cntL Fh l ρ := by
  simp only [cntL]
  rw [cntL_if (G := Fl) (b := false) (fun ρ e => by simp [e]) l _ hv (upd_same _ _ _), cntL_if (G := Fh) (b := true) (fun ρ e => by simp [e]) l _ hv (upd_same _ _ _), cntL_upd hl, cntL_upd hh]
theorem cntL_zero {F : Env → Bool} : ∀ (l : List Nat) (ρ : Env), cntL F l ρ = 0 → ∀ σ : Env, (∀ x, x ∉ l → σ x = ρ x) → F σ = false := by
  intro l
  induction l with
  | nil =>
    intro ρ h σ hσ
    have : σ = ρ := by funext x; exact hσ x (by simp)
    subst this
    unfold cntL at h
    cases hF : F σ
    · rfl
    · rw [hF] at h; simp at h
  | cons v vs ih =>
    intro ρ h σ hσ
    simp only [cntL] at h
    cases hb : σ v
    · exact ih (upd ρ v false) (by omega) σ (fun x hx => by
        by_cases e : x = v
        · subst e; rw [upd_same]; exact hb
        · rw [upd_other _ _ e]; exact hσ x (by simp [e, hx]))
    · exact ih (upd ρ v true) (by omega) σ (fun x hx => by
        by_cases e : x = v
        · subst e; rw [upd_same]; exact hb
        · rw [upd_other _ _ e]; exact hσ x (by simp [e, hx]))
theorem cntL_none (l : List Nat) (ρ : Env) : cntL (fun _ => false) l ρ = 0 := by
  induction l generalizing ρ with
  | nil => rfl
  | cons v vs ih => simp only [cntL, ih]
/-- a number times 2 to the n, in two words -/
def val (c : Nat × Nat) : Nat := c.1 * 18446744073709551616 + c.2
def ok2 (c : Nat × Nat) : Prop := c.1 < 18446744073709551616 ∧ c.2 < 18446744073709551616
def ofN (n : Nat) : Nat × Nat := (n / 18446744073709551616, n % 18446744073709551616)
theorem ofN_val (n : Nat) : val (ofN n) = n := by unfold val ofN; simp only; omega
theorem ofN_ok {n : Nat} (h : n < 340282366920938463463374607431768211456) : ok2 (ofN n) := by unfold ok2 ofN; simp only; omega
theorem ofN_small {n : Nat} (h : n < 18446744073709551616) : ofN n = (0, n) := by
  unfold ofN
  rw [Nat.div_eq_of_lt h, Nat.mod_eq_of_lt h]
theorem ofN_eq {c : Nat × Nat} (h : ok2 c) {n : Nat} (hv : val c = n) : c = ofN n := by
  obtain ⟨a, b⟩ := c
  unfold ok2 at h
  unfold val at hv
  unfold ofN
  simp only at h hv
  rw [Prod.mk.injEq]
  omega
end Go.Proofs.Ytgfjdkkfgclhjaa.Bd
