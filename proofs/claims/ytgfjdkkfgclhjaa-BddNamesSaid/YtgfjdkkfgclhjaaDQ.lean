/- How many nodes a diagram has. -/
import Derived.Test.YtgfjdkkfgclhjaaBJ
namespace Go.Proofs.Ytgfjdkkfgclhjaa.Bd

theorem Den.indepS {S : Nat → Bool} {nd : List Nd} {i t : Nat} {F : Env → Bool} (h : Den S nd i t F) : ∀ ρ ρ' : Env, (∀ x, t ≤ x → x < 256 → S x = true → ρ x = ρ' x) → F ρ = F ρ' := by
  induction h with
  | zero => intro _ _ _; rfl
  | one => intro _ _ _; rfl
  | node h h2 hl hh hne h1 h3 hv hS _ _ il ih =>
    intro ρ ρ' hq
    simp only
    rw [hq _ (Nat.le_refl _) hv hS, il ρ ρ' (fun x hx h => hq x (by omega) h), ih ρ ρ' (fun x hx h => hq x (by omega) h)]
theorem nS_lt {S : Nat → Bool} {x y : Nat} (h : x ≤ y) (hy : y < 256) (hS : S y = true) : nS S (y + 1) < nS S x := by
  have h1 := nS_le S h
  have h2 := nS_step S hy
  rw [hS, if_pos rfl] at h2
  omega
def bitsEnv (S : Nat → Bool) (b : Nat) : Env := fun x => b.testBit (nS S (x + 1))
def code (S : Nat → Bool) (F : Env → Bool) : Nat :=
  (F (bitsEnv S 0)).toNat + 2 * (F (bitsEnv S 1)).toNat + 4 * (F (bitsEnv S 2)).toNat + 8 * (F (bitsEnv S 3)).toNat + 16 * (F (bitsEnv S 4)).toNat + 32 * (F (bitsEnv S 5)).toNat + 64 * (F (bitsEnv S 6)).toNat + 128 * (F (bitsEnv S 7)).toNat
theorem toNat_le (b : Bool) : b.toNat ≤ 1 := by cases b <;> simp
theorem toNat_inj {a b : Bool} (h : a.toNat = b.toNat) : a = b := by cases a <;> cases b <;> simp_all
theorem code_lt (S : Nat → Bool) (F : Env → Bool) : code S F < 256 := by
  unfold code
  have := toNat_le (F (bitsEnv S 0)); have := toNat_le (F (bitsEnv S 1)); have := toNat_le (F (bitsEnv S 2)); have := toNat_le (F (bitsEnv S 3))
  have := toNat_le (F (bitsEnv S 4)); have := toNat_le (F (bitsEnv S 5)); have := toNat_le (F (bitsEnv S 6)); have := toNat_le (F (bitsEnv S 7))
  omega
theorem code_inj {S : Nat → Bool} {F G : Env → Bool} (h : code S F = code S G) : ∀ b, b < 8 → F (bitsEnv S b) = G (bitsEnv S b) := by
  unfold code at h
  have := toNat_le (F (bitsEnv S 0)); have := toNat_le (F (bitsEnv S 1)); have := toNat_le (F (bitsEnv S 2)); have := toNat_le (F (bitsEnv S 3))
  have := toNat_le (F (bitsEnv S 4)); have := toNat_le (F (bitsEnv S 5)); have := toNat_le (F (bitsEnv S 6)); have := toNat_le (F (bitsEnv S 7))
  have := toNat_le (G (bitsEnv S 0)); have := toNat_le (G (bitsEnv S 1)); have := toNat_le (G (bitsEnv S 2)); have := toNat_le (G (bitsEnv S 3))
  have := toNat_le (G (bitsEnv S 4)); have := toNat_le (G (bitsEnv S 5)); have := toNat_le (G (bitsEnv S 6)); have := toNat_le (G (bitsEnv S 7))
  intro b hb
  apply toNat_inj
  rcases (by omega : b = 0 ∨ b = 1 ∨ b = 2 ∨ b = 3 ∨ b = 4 ∨ b = 5 ∨ b = 6 ∨ b = 7) with rfl | rfl | rfl | rfl | rfl | rfl | rfl | rfl <;> omega
theorem bits3 : ∀ p q r : Bool, (p.toNat + 2 * q.toNat + 4 * r.toNat) < 8 ∧ (p.toNat + 2 * q.toNat + 4 * r.toNat).testBit 0 = p ∧ (p.toNat + 2 * q.toNat + 4 * r.toNat).testBit 1 = q ∧ (p.toNat + 2 * q.toNat + 4 * r.toNat).testBit 2 = r := by decide
theorem low_env (S : Nat → Bool) {t : Nat} (ht : nS S t ≤ 3) (ρ : Env) : ∃ b, b < 8 ∧ ∀ x, t ≤ x → x < 256 → S x = true → ρ x = bitsEnv S b x := by
  classical
  let p : Nat → Bool := fun j => decide (∃ x, t ≤ x ∧ x < 256 ∧ S x = true ∧ nS S (x + 1) = j ∧ ρ x = true)
  obtain ⟨h0, h1, h2, h3⟩ := bits3 (p 0) (p 1) (p 2)
  refine ⟨_, h0, fun x hx h256 hS => ?_⟩
  have key : ρ x = p (nS S (x + 1)) := by
    rw [Bool.eq_iff_iff]
    simp only [p, decide_eq_true_eq]
    constructor
    · intro h; exact ⟨x, hx, h256, hS, rfl, h⟩
    · rintro ⟨y, hy, hy2, hS2, e, h⟩
      have : y = x := by
        rcases Nat.lt_trichotomy x y with h' | h' | h'
        · have := nS_lt (S := S) (show x + 1 ≤ y by omega) hy2 hS2; omega
        · exact h'.symm
        · have := nS_lt (S := S) (show y + 1 ≤ x by omega) h256 hS; omega
      rw [← this]; exact h
  have hlt := nS_lt hx h256 hS
  unfold bitsEnv
  rw [key]
  rcases (by omega : nS S (x + 1) = 0 ∨ nS S (x + 1) = 1 ∨ nS S (x + 1) = 2) with e | e | e <;> rw [e]
  · exact h1.symm
  · exact h2.symm
  · exact h3.symm
theorem low_eq {S : Nat → Bool} {nd : List Nd} (ho : Once nd) {i j t s : Nat} {F G : Env → Bool} (d : Den S nd i t F) (d' : Den S nd j s G) (ht : nS S t ≤ 3) (hs : nS S s ≤ 3) (hc : code S F = code S G) : i = j := by
  have hc := code_inj hc
  have e : F = G := by
    funext ρ
    rcases Nat.le_total t s with h | h
    · obtain ⟨b, hb, hx⟩ := low_env S ht ρ
      rw [d.indepS ρ _ hx, d'.indepS ρ _ (fun x h1 => hx x (by omega)), hc b hb]
    · obtain ⟨b, hb, hx⟩ := low_env S hs ρ
      rw [d.indepS ρ _ (fun x h1 => hx x (by omega)), d'.indepS ρ _ hx, hc b hb]
  subst e
  exact d.eq ho d'
theorem low_len {S : Nat → Bool} {nd : List Nd} (ho : Once nd) {L : List Nat} (hn : L.Nodup) (h : ∀ x ∈ L, ∃ t F, Den S nd x t F ∧ nS S t ≤ 3) : L.length ≤ 256 := by
  classical
  let c : Nat → Nat := fun x => if h : ∃ F t, Den S nd x t F then code S h.choose else 0
  have hc : ∀ x t F, Den S nd x t F → c x = code S F := by
    intro x t F d
    have h : ∃ F t, Den S nd x t F := ⟨F, t, d⟩
    simp only [c, dif_pos h]
    obtain ⟨t', d'⟩ := h.choose_spec
    rw [(d'.det d).2]
  have := nodup_len (fr := L.map c) (n := 256) ?_ ?_
  · simpa using this
  · unfold List.Nodup
    rw [List.pairwise_map]
    refine List.Pairwise.imp_of_mem ?_ hn
    intro a b ha hb hne he
    obtain ⟨t, F, d, ht⟩ := h a ha
    obtain ⟨s, G, d', hs⟩ := h b hb
    rw [hc a t F d, hc b s G d'] at he
    exact hne (low_eq ho d d' ht hs he)
  · intro y hy
    obtain ⟨x, hx, rfl⟩ := List.mem_map.1 hy
    obtain ⟨t, F, d, _⟩ := h x hx
    rw [hc x t F d]
    exact code_lt _ _
def topOf (nd : List Nd) (x : Nat) : Nat := match nd[x]? with | some (v, _, _) => v | none => 256
theorem topOf_den {S : Nat → Bool} {nd : List Nd} (hw : WF nd) {x t : Nat} {F : Env → Bool} (d : Den S nd x t F) : topOf nd x = t := by
  unfold topOf
  cases d with
  | zero => rw [hw.e0]
  | one => rw [hw.e1]
  | node h => rw [h]
def hiB (S : Nat → Bool) (nd : List Nd) (x : Nat) : Bool := decide (3 < nS S (topOf nd x))
def hiN (S : Nat → Bool) (nd : List Nd) (fr : List Nat) : Nat := (fr.filter (hiB S nd)).length
theorem vis_hi {S : Nat → Bool} {nd : List Nd} (hw : WF nd) {he : Int → Bool} : ∀ (n : Nat) (fr : List Nat) (f t : Nat) (F : Env → Bool), Den S nd f t F → hiN S nd (vis nd he n fr f) + 1 ≤ hiN S nd fr + 2 ^ (nS S t - 3) := by
  intro n
  induction n with
  | zero => intro fr f t F d; unfold vis; have := Nat.one_le_two_pow (n := nS S t - 3); omega
  | succ n ih =>
    intro fr f t F d
    have hp := Nat.one_le_two_pow (n := nS S t - 3)
    unfold vis
    split
    · omega
    · rename_i hc
      obtain ⟨lo, hi, tl, th, Fl, Fh, hr, r1, r2, r3, r4, r5, r6, r7, dl, dh, _⟩ := d.row (by omega)
      rw [hr]
      simp only
      have i1 := ih (fr ++ [f]) lo tl Fl dl
      have i2 := ih (vis nd he n (fr ++ [f]) lo) hi th Fh dh
      have e1 : hiN S nd (fr ++ [f]) = hiN S nd fr + if 3 < nS S t then 1 else 0 := by
        unfold hiN
        rw [List.filter_append, List.length_append]
        congr 1
        unfold hiB
        simp only [List.filter_cons, List.filter_nil, topOf_den hw d]
        split <;> simp_all
      have hst := nS_step S r6
      rw [r7, if_pos rfl] at hst
      have l1 := nS_le S (show t + 1 ≤ tl by omega)
      have l2 := nS_le S (show t + 1 ≤ th by omega)
      by_cases h3 : 3 < nS S t
      · rw [if_pos h3] at e1
        have p1 : 2 ^ (nS S tl - 3) ≤ 2 ^ (nS S (t + 1) - 3) := Nat.pow_le_pow_right (by omega) (by omega)
        have p2 : 2 ^ (nS S th - 3) ≤ 2 ^ (nS S (t + 1) - 3) := Nat.pow_le_pow_right (by omega) (by omega)
        have p3 : 2 ^ (nS S t - 3) = 2 * 2 ^ (nS S (t + 1) - 3) := by
          rw [show nS S t - 3 = (nS S (t + 1) - 3) + 1 by omega, Nat.pow_succ]; omega
        omega
      · rw [if_neg h3] at e1
        have p1 : 2 ^ (nS S tl - 3) = 1 := by rw [show nS S tl - 3 = 0 by omega]
        have p2 : 2 ^ (nS S th - 3) = 1 := by rw [show nS S th - 3 = 0 by omega]
        omega
theorem vis_den {S : Nat → Bool} {nd : List Nd} {he : Int → Bool} : ∀ (n : Nat) (fr : List Nat) (f t : Nat) (F : Env → Bool), Den S nd f t F → ∀ x ∈ vis nd he n fr f, x ∈ fr ∨ ∃ t' F', Den S nd x t' F' := by
  intro n
  induction n with
  | zero => intro fr f t F d x hx; exact .inl hx
  | succ n ih =>
    intro fr f t F d x hx
    unfold vis at hx
    split at hx
    · exact .inl hx
    · obtain ⟨lo, hi, tl, th, Fl, Fh, hr, r1, r2, r3, r4, r5, r6, r7, dl, dh, _⟩ := d.row (by omega)
      rw [hr] at hx
      simp only at hx
      rcases ih _ _ _ _ dh x hx with h | h
      · rcases ih _ _ _ _ dl x h with h | h
        · rcases List.mem_append.1 h with h | h
          · exact .inl h
          · have : x = f := by simpa using h
            subst this
            exact .inr ⟨t, F, d⟩
        · exact .inr h
      · exact .inr h
/-- a diagram over k variables has few nodes -/
theorem fresh_le {S : Nat → Bool} {s : St} (hw : WF s.nd) {f t : Nat} {F : Env → Bool} (d : Den S s.nd f t F) : (fresh s f).length ≤ 2 ^ (nS S t - 3) + 255 := by
  have hM := vis_met hw (he := s.he) (f + 1) [] f (d.lt hw) (Met.nil _ _)
  have h1 := vis_hi hw (he := s.he) (f + 1) [] f t F d
  have e : hiN S s.nd [] = 0 := rfl
  have hd := vis_den (he := s.he) (f + 1) [] f t F d
  have h2 := low_len (S := S) hw.once (L := (vis s.nd s.he (f + 1) [] f).filter fun x => !hiB S s.nd x) (hM.nodup.sublist List.filter_sublist) ?_
  · have h3 : ∀ (p : Nat → Bool) (l : List Nat), l.length = (l.filter p).length + (l.filter fun x => !p x).length := by
      intro p l
      induction l with
      | nil => rfl
      | cons x xs ih => simp only [List.filter_cons, List.length_cons]; cases p x <;> simp <;> omega
    have := h3 (hiB S s.nd) (vis s.nd s.he (f + 1) [] f)
    unfold fresh
    unfold hiN at h1 e
    omega
  · intro x hx
    obtain ⟨hx1, hx2⟩ := List.mem_filter.1 hx
    rcases hd x hx1 with h | ⟨t', F', d'⟩
    · cases h
    · refine ⟨t', F', d', ?_⟩
      unfold hiB at hx2
      rw [topOf_den hw d'] at hx2
      simp at hx2
      omega
end Go.Proofs.Ytgfjdkkfgclhjaa.Bd
