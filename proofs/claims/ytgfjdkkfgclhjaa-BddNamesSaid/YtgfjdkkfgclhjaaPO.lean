/- Some and all over variables, in plain words. No program is in sight. -/
import Derived.Test.YtgfjdkkfgclhjaaDP
namespace Go.Proofs.Ytgfjdkkfgclhjaa.Bd

/-- F with both values of x, joined -/
def quant (J : Bool → Bool → Bool) (x : Nat) (F : Env → Bool) : Env → Bool := fun ρ => J (F (upd ρ x false)) (F (upd ρ x true))
/-- .. of the variables of O, n of them from a on -/
def ovF (J : Bool → Bool → Bool) (O : Nat → Bool) : Nat → Nat → (Env → Bool) → Env → Bool
  | _, 0, F => F
  | a, n + 1, F => ovF J O (a + 1) n (if O a then quant J a F else F)
def overT (J : Bool → Bool → Bool) (O : Nat → Bool) (F : Env → Bool) : Env → Bool := ovF J O 0 256 F
/-- what is asked of J -/
structure Joins (J : Bool → Bool → Bool) : Prop where
  idem : ∀ a, J a a = a
  swap : ∀ a b c d, J (J a b) (J c d) = J (J a c) (J b d)
theorem joins_or : Joins (fun a b => a || b) := ⟨by decide, by decide⟩
theorem joins_and : Joins (fun a b => a && b) := ⟨by decide, by decide⟩
theorem upd_swap (ρ : Env) {x y : Nat} (a b : Bool) (h : x ≠ y) : upd (upd ρ x a) y b = upd (upd ρ y b) x a := by
  funext z
  unfold upd
  by_cases h1 : z = y
  · subst h1
    rw [if_pos rfl, if_neg (Ne.symm h), if_pos rfl]
  · rw [if_neg h1]
    by_cases h2 : z = x
    · rw [if_pos h2, if_pos h2]
    · rw [if_neg h2, if_neg h2, if_neg h1]
theorem upd_twice (ρ : Env) (x : Nat) (a b : Bool) : upd (upd ρ x a) x b = upd ρ x b := by
  funext z
  unfold upd
  by_cases h : z = x <;> simp [h]
section
variable {J : Bool → Bool → Bool} (hJ : Joins J)
include hJ
theorem quant_free {x : Nat} {F : Env → Bool} (h : ∀ ρ b, F (upd ρ x b) = F ρ) : quant J x F = F := by
  funext ρ
  unfold quant
  rw [h, h, hJ.idem]
theorem quant_join (x : Nat) (G H : Env → Bool) : quant J x (fun ρ => J (G ρ) (H ρ)) = fun ρ => J (quant J x G ρ) (quant J x H ρ) := by
  funext ρ
  unfold quant
  exact hJ.swap _ _ _ _
omit hJ in
theorem quant_if {x v : Nat} (h : x ≠ v) (G H : Env → Bool) : quant J x (fun ρ => if ρ v then H ρ else G ρ) = fun ρ => if ρ v then quant J x H ρ else quant J x G ρ := by
  funext ρ
  unfold quant
  simp only [upd_other _ _ (Ne.symm h)]
  cases ρ v <;> simp
theorem quant_same (x : Nat) (F : Env → Bool) : quant J x (quant J x F) = quant J x F := by
  funext ρ
  unfold quant
  simp only [upd_twice, hJ.idem]
theorem quant_comm (x y : Nat) (F : Env → Bool) : quant J x (quant J y F) = quant J y (quant J x F) := by
  by_cases h : x = y
  · subst h; rfl
  · funext ρ
    unfold quant
    rw [hJ.swap]
    simp only [upd_swap ρ _ _ h]
omit hJ in
theorem quant_still {x y : Nat} {F : Env → Bool} (h : ∀ ρ b, F (upd ρ y b) = F ρ) : ∀ ρ b, quant J x F (upd ρ y b) = quant J x F ρ := by
  intro ρ b
  unfold quant
  by_cases e : x = y
  · subst e; simp only [upd_twice]
  · simp only [upd_swap ρ b _ (Ne.symm e), h]
theorem ovF_free {O : Nat → Bool} : ∀ (n a : Nat) (F : Env → Bool), (∀ x, a ≤ x → x < a + n → ∀ ρ b, F (upd ρ x b) = F ρ) → ovF J O a n F = F := by
  intro n
  induction n with
  | zero => intro a F _; rfl
  | succ n ih =>
    intro a F h
    unfold ovF
    have e : (if O a then quant J a F else F) = F := by
      split
      · exact quant_free hJ (h a (Nat.le_refl _) (by omega))
      · rfl
    rw [e]
    exact ih (a + 1) F (fun x h1 h2 => h x (by omega) (by omega))
theorem ovF_join {O : Nat → Bool} : ∀ (n a : Nat) (G H : Env → Bool), ovF J O a n (fun ρ => J (G ρ) (H ρ)) = fun ρ => J (ovF J O a n G ρ) (ovF J O a n H ρ) := by
  intro n
  induction n with
  | zero => intro a G H; rfl
  | succ n ih =>
    intro a G H
    unfold ovF
    by_cases h : O a = true
    · rw [if_pos h, if_pos h, if_pos h, quant_join hJ, ih]
    · rw [if_neg h, if_neg h, if_neg h, ih]
omit hJ in
theorem ovF_if {O : Nat → Bool} {v : Nat} : ∀ (n a : Nat) (G H : Env → Bool), (v < a ∨ a + n ≤ v) → ovF J O a n (fun ρ => if ρ v then H ρ else G ρ) = fun ρ => if ρ v then ovF J O a n H ρ else ovF J O a n G ρ := by
  intro n
  induction n with
  | zero => intro a G H _; rfl
  | succ n ih =>
    intro a G H h
    unfold ovF
    by_cases h1 : O a = true
    · rw [if_pos h1, if_pos h1, if_pos h1, quant_if (by omega), ih _ _ _ (by omega)]
    · rw [if_neg h1, if_neg h1, if_neg h1, ih _ _ _ (by omega)]
omit hJ in
theorem ovF_add {O : Nat → Bool} : ∀ (m n a : Nat) (F : Env → Bool), ovF J O a (m + n) F = ovF J O (a + m) n (ovF J O a m F) := by
  intro m
  induction m with
  | zero => intro n a F; simp [ovF]
  | succ m ih =>
    intro n a F
    have e1 : ovF J O a (m + 1 + n) F = ovF J O (a + 1) (m + n) (if O a then quant J a F else F) := by rw [show m + 1 + n = (m + n) + 1 by omega]; rfl
    have e2 : ovF J O a (m + 1) F = ovF J O (a + 1) m (if O a then quant J a F else F) := rfl
    rw [e1, e2, ih, show a + 1 + m = a + (m + 1) by omega]
theorem overT_free {O : Nat → Bool} {F : Env → Bool} (h : ∀ ρ ρ' : Env, F ρ = F ρ') : overT J O F = F := ovF_free hJ 256 0 F (fun _ _ _ _ _ => h _ _)
/-- .. at a node whose halves stand behind v -/
theorem overT_node {O : Nat → Bool} {v : Nat} (hv : v < 256) {Fl Fh : Env → Bool} (hl : ∀ ρ ρ' : Env, (∀ x, v < x → x < 256 → ρ x = ρ' x) → Fl ρ = Fl ρ') (hh : ∀ ρ ρ' : Env, (∀ x, v < x → x < 256 → ρ x = ρ' x) → Fh ρ = Fh ρ') :
    overT J O (fun ρ => if ρ v then Fh ρ else Fl ρ) = if O v then fun ρ => J (overT J O Fl ρ) (overT J O Fh ρ) else fun ρ => if ρ v then overT J O Fh ρ else overT J O Fl ρ := by
  have fl : ∀ x, x ≤ v → ∀ ρ b, Fl (upd ρ x b) = Fl ρ := fun x hx ρ b => hl _ _ (fun y h1 h2 => upd_other _ _ (by omega))
  have fh : ∀ x, x ≤ v → ∀ ρ b, Fh (upd ρ x b) = Fh ρ := fun x hx ρ b => hh _ _ (fun y h1 h2 => upd_other _ _ (by omega))
  have sp : ∀ G : Env → Bool, overT J O G = ovF J O (v + 1) (255 - v) (ovF J O v 1 (ovF J O 0 v G)) := by
    intro G
    have a1 := ovF_add (J := J) (O := O) v (1 + (255 - v)) 0 G
    have a2 := ovF_add (J := J) (O := O) 1 (255 - v) v (ovF J O 0 v G)
    unfold overT
    rw [show 256 = v + (1 + (255 - v)) by omega, a1, Nat.zero_add, a2]
  have one : ∀ G : Env → Bool, ovF J O v 1 G = if O v then quant J v G else G := fun G => rfl
  have kl : ovF J O 0 v Fl = Fl := ovF_free hJ v 0 Fl (fun x _ h2 => fl x (by omega))
  have kh : ovF J O 0 v Fh = Fh := ovF_free hJ v 0 Fh (fun x _ h2 => fh x (by omega))
  have tl : overT J O Fl = ovF J O (v + 1) (255 - v) Fl := by
    rw [sp, kl, one]
    split
    · rw [quant_free hJ (fl v (Nat.le_refl _))]
    · rfl
  have th : overT J O Fh = ovF J O (v + 1) (255 - v) Fh := by
    rw [sp, kh, one]
    split
    · rw [quant_free hJ (fh v (Nat.le_refl _))]
    · rfl
  rw [sp, ovF_if v 0 _ _ (.inr (by omega)), kl, kh, one, tl, th]
  by_cases h : O v = true
  · rw [if_pos h, if_pos h]
    have e : quant J v (fun ρ => if ρ v then Fh ρ else Fl ρ) = fun ρ => J (Fl ρ) (Fh ρ) := by
      funext ρ
      unfold quant
      simp only [upd_same, Bool.false_eq_true, if_false, if_true, fl v (Nat.le_refl _), fh v (Nat.le_refl _)]
    rw [e, ovF_join hJ]
  · rw [if_neg h, if_neg h, ovF_if _ _ _ _ (.inl (by omega))]
/-- one variable more -/
theorem ovF_quant {O : Nat → Bool} (x : Nat) : ∀ (n a : Nat) (F : Env → Bool), ovF J O a n (quant J x F) = quant J x (ovF J O a n F) := by
  intro n
  induction n with
  | zero => intro a F; rfl
  | succ n ih =>
    intro a F
    unfold ovF
    by_cases h : O a = true
    · rw [if_pos h, if_pos h, quant_comm hJ, ih]
    · rw [if_neg h, if_neg h, ih]
omit hJ in
theorem ovF_out {O O' : Nat → Bool} : ∀ (n a : Nat) (F : Env → Bool), (∀ y, a ≤ y → y < a + n → O y = O' y) → ovF J O a n F = ovF J O' a n F := by
  intro n
  induction n with
  | zero => intro a F _; rfl
  | succ n ih =>
    intro a F h
    unfold ovF
    rw [h a (Nat.le_refl _) (by omega), ih _ _ (fun y h1 h2 => h y (by omega) (by omega))]
theorem overT_put {O : Nat → Bool} {x : Nat} (hx : x < 256) (F : Env → Bool) : overT J (fun y => decide (y = x) || O y) F = quant J x (overT J O F) := by
  have sp : ∀ (O : Nat → Bool) (G : Env → Bool), overT J O G = ovF J O (x + 1) (255 - x) (ovF J O x 1 (ovF J O 0 x G)) := by
    intro O G
    have a1 := ovF_add (J := J) (O := O) x (1 + (255 - x)) 0 G
    have a2 := ovF_add (J := J) (O := O) 1 (255 - x) x (ovF J O 0 x G)
    unfold overT
    rw [show 256 = x + (1 + (255 - x)) by omega, a1, Nat.zero_add, a2]
  rw [sp, sp O F]
  have one : ∀ (O : Nat → Bool) (G : Env → Bool), ovF J O x 1 G = if O x then quant J x G else G := fun _ G => rfl
  rw [ovF_out (O := fun y => decide (y = x) || O y) (O' := O) x 0 F (fun y _ h => by simp; omega), ovF_out (O := fun y => decide (y = x) || O y) (O' := O) (255 - x) (x + 1) _ (fun y h _ => by simp; omega), one, one]
  simp only [decide_true, Bool.true_or, if_true]
  rw [ovF_quant hJ]
  split
  · rw [ovF_quant hJ, quant_same hJ]
  · rfl
omit hJ in
theorem overT_none (F : Env → Bool) : overT J (fun _ => false) F = F := by
  have : ∀ n a, ovF J (fun _ => false) a n F = F := by
    intro n
    induction n with
    | zero => intro a; rfl
    | succ n ih => intro a; unfold ovF; simp [ih]
  exact this 256 0
end
end Go.Proofs.Ytgfjdkkfgclhjaa.Bd
