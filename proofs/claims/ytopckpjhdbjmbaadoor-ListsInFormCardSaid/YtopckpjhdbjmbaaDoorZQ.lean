/- Plain words on a community's text: what lists.Parse and the reference's Parse answer is the same: the one number whose text it is. -/
import Derived.Test.YtopckpjhdbjmbaaDoorZT
import Derived.Test.YtopckpjhdbjmbaaDoorWP
namespace Go.Proofs.YtopckpjhdbjmbaaDoor.Ld
open Go Go.Proofs.YtopckpjhdbjmbaaDoor.Lx

theorem index_one_at {s : List UInt8} {c : UInt8} (h : 0 ≤ Lib.index s [c]) : (∀ x ∈ s.take (Lib.index s [c]).toNat, x ≠ c) ∧ s.drop (Lib.index s [c]).toNat = c :: s.drop ((Lib.index s [c]).toNat + 1) := by
  induction s with
  | nil => simp [Lib.index] at h
  | cons y ys ih =>
    rw [Lib.index] at h ⊢
    split at h
    · rename_i hp
      rw [if_pos hp]
      have hy : y = c := by
        simp only [List.isPrefixOf, Bool.and_true, beq_iff_eq] at hp
        exact hp.symm
      simp [hy]
    · rename_i hp
      rw [if_neg hp]
      have hge := Lib.index_ge ys [c]
      have hy : y ≠ c := by
        intro e
        apply hp
        simp [List.isPrefixOf, e]
      split at h
      · omega
      · rename_i h1
        rw [if_neg h1]
        have h2 : ¬ Lib.index ys [c] = -1 := by simpa using h1
        have := ih (by omega)
        have e : (Lib.index ys [c] + 1).toNat = (Lib.index ys [c]).toNat + 1 := by omega
        rw [e]
        refine ⟨?_, by rw [List.drop_succ_cons, List.drop_succ_cons]; exact this.2⟩
        intro x hx
        rw [List.take_succ_cons] at hx
        rcases List.mem_cons.1 hx with rfl | hx
        · exact hy
        · exact this.1 x hx
theorem index_app : ∀ (a b : List UInt8), (∀ x ∈ a, x ≠ 58) → Lib.index (a ++ 58 :: b) [58] = a.length := by
  intro a
  induction a with
  | nil => intro b _; simp [Lib.index, List.isPrefixOf]
  | cons x xs ih =>
    intro b h
    have hx : x ≠ 58 := h x (List.mem_cons_self ..)
    have h1 := ih b (fun y hy => h y (List.mem_cons_of_mem _ hy))
    rw [List.cons_append, Lib.index, h1]
    have e1 : List.isPrefixOf [58] (x :: (xs ++ 58 :: b)) = false := by
      simp only [List.isPrefixOf, Bool.and_true, beq_eq_false_iff_ne]
      exact fun e => hx e.symm
    have e2 : ((xs.length : Int) == -1) = false := by rw [beq_eq_false_iff_ne]; omega
    rw [e1, if_neg (by decide), e2, if_neg (by decide)]
    simp
theorem index_no : ∀ (a : List UInt8), (∀ x ∈ a, x ≠ 58) → Lib.index a [58] = -1 := by
  intro a
  induction a with
  | nil => intro _; simp [Lib.index]
  | cons x xs ih =>
    intro h
    have hx : x ≠ 58 := h x (List.mem_cons_self ..)
    rw [Lib.index, ih (fun y hy => h y (List.mem_cons_of_mem _ hy))]
    have e1 : List.isPrefixOf [58] (x :: xs) = false := by
      simp only [List.isPrefixOf, Bool.and_true, beq_eq_false_iff_ne]
      exact fun e => hx e.symm
    rw [e1, if_neg (by decide)]; rfl
theorem cut_app (a b : List UInt8) (h : ∀ x ∈ a, x ≠ 58) : Lib.cut (a ++ 58 :: b) [58] = (a, b, true) := by
  unfold Lib.cut
  rw [index_app a b h, if_pos (by omega)]
  simp
/-- waymarkref01.Read up to 65535 -/
def rdI (l : List UInt8) : Int := if canon l = true ∧ val l ≤ 65535 then (val l : Int) else -1
def pairR (a b : List UInt8) : Option Nat := if rdI a < 0 ∨ rdI b < 0 then none else some (65536 * rdI a + rdI b).toNat
/-- what waymarkref09.Parse answers -/
def parseR (l : List UInt8) : Option Nat := if Lib.index l [58] < 0 then none else pairR (l.take (Lib.index l [58]).toNat) (l.drop ((Lib.index l [58]).toNat + 1))
theorem parseR_app (a b : List UInt8) (h : ∀ x ∈ a, x ≠ 58) : parseR (a ++ 58 :: b) = pairR a b := by
  unfold parseR
  rw [index_app a b h, if_neg (by omega)]
  simp
theorem parseR_no (a : List UInt8) (h : ∀ x ∈ a, x ≠ 58) : parseR a = none := by
  unfold parseR
  rw [index_no a h, if_pos (by omega)]
theorem rdI_dec (m : Nat) (h : m ≤ 65535) : rdI (Lib.decDigits m) = m := by
  obtain ⟨h1, h2, _⟩ := decDigits_canon m
  unfold rdI
  rw [h2, if_pos ⟨h1, h⟩]
theorem rdI_some {l : List UInt8} (h : ¬ rdI l < 0) : canon l = true ∧ val l ≤ 65535 ∧ rdI l = val l ∧ Lib.decDigits (val l) = l := by
  unfold rdI at h ⊢
  split at h
  · rename_i h1
    rw [if_pos h1]
    exact ⟨h1.1, h1.2, rfl, canon_dec _ l (Nat.le_refl _) h1.1⟩
  · omega
theorem dec_no58 (m : Nat) : ∀ x ∈ Lib.decDigits m, x ≠ 58 := by
  intro x hx e
  have h := (decDigits_canon m).1
  unfold canon at h
  simp only [Bool.and_eq_true, List.all_eq_true] at h
  have h1 := (digB_iff x).1 (h.1.2 x hx)
  rw [e] at h1
  have : (58 : UInt8).toNat = 58 := rfl
  omega
theorem textL_eq (m n : Nat) (hn : n ≤ 65535) : textL (m * 65536 + n) = Lib.decDigits m ++ 58 :: Lib.decDigits n := by
  unfold textL
  rw [show (m * 65536 + n) / 65536 = m by omega, show (m * 65536 + n) % 65536 = n by omega]
  simp
theorem parseM_ok (M : Nat) (hM : M < 1844674407370955162) : ∀ (l : List UInt8) (a : Nat), (∀ c ∈ l, digB c = true) → valF a l ≤ M → Lib.parseUintM M a l = .ok (valF a l) := by
  intro l
  induction l with
  | nil => intro a _ _; rfl
  | cons c r ih =>
    intro a h hv
    have hc := (digB_iff c).1 (h c (List.mem_cons_self ..))
    rw [valF_cons] at hv ⊢
    have hg := valF_ge r (10 * a + (c.toNat - 48))
    rw [Lib.parseUintM, if_pos hc, if_neg (by omega), if_neg (by omega), show a * 10 + (c.toNat - 48) = 10 * a + (c.toNat - 48) by omega]
    exact ih _ (fun d hd => h d (List.mem_cons_of_mem _ hd)) hv
theorem parseU_dec (m : Nat) (h : m ≤ 65535) : Lib.parseUintB 16 (Lib.decDigits m) = .ok m := by
  obtain ⟨h1, h2, _⟩ := decDigits_canon m
  have hc := h1
  unfold canon at h1
  simp only [Bool.and_eq_true, List.all_eq_true, Bool.not_eq_true', List.isEmpty_eq_false_iff] at h1
  unfold Lib.parseUintB
  rw [if_neg h1.1.1, parseM_ok _ (by decide) _ _ h1.1.2 (by show val _ ≤ _; rw [h2]; simpa using h)]
  show Lib.NumEnd.ok (val _) = _
  rw [h2]

theorem parseA_text (c : Nat) (h : c < 4294967296) : parseA (textL c) = some c := by
  obtain ⟨m, n, hm, hn, rfl⟩ : ∃ m n, m ≤ 65535 ∧ n ≤ 65535 ∧ c = m * 65536 + n := ⟨c / 65536, c % 65536, by omega, by omega, by omega⟩
  have e := textL_eq m n hn
  unfold parseA
  rw [e, cut_app _ _ (dec_no58 m), parseU_dec m hm, parseU_dec n hn]
  simp only [e, if_true]
theorem parseA_some {l : List UInt8} {c : Nat} (h : parseA l = some c) : textL c = l ∧ c < 4294967296 := by
  unfold parseA at h
  split at h
  · rename_i m n h1 h2
    have b1 := Lib.parseUintB_le h1
    have b2 := Lib.parseUintB_le h2
    split at h
    · rename_i h3
      cases h
      exact ⟨h3, by omega⟩
    · cases h
  · cases h
theorem parseR_text (c : Nat) (h : c < 4294967296) : parseR (textL c) = some c := by
  obtain ⟨m, n, hm, hn, rfl⟩ : ∃ m n, m ≤ 65535 ∧ n ≤ 65535 ∧ c = m * 65536 + n := ⟨c / 65536, c % 65536, by omega, by omega, by omega⟩
  rw [textL_eq m n hn, parseR_app _ _ (dec_no58 m)]
  unfold pairR
  rw [rdI_dec m hm, rdI_dec n hn, if_neg (by omega)]
  congr 1
  omega
theorem parseR_some {l : List UInt8} {c : Nat} (h : parseR l = some c) : textL c = l ∧ c < 4294967296 := by
  unfold parseR at h
  split at h
  · cases h
  · rename_i hi
    unfold pairR at h
    split at h
    · cases h
    · rename_i hr
      obtain ⟨_, a2, a3, a4⟩ := rdI_some (l := l.take (Lib.index l [58]).toNat) (fun e => hr (.inl e))
      obtain ⟨_, b2, b3, b4⟩ := rdI_some (l := l.drop ((Lib.index l [58]).toNat + 1)) (fun e => hr (.inr e))
      rw [a3, b3] at h
      cases h
      rw [show (65536 * ((val (l.take (Lib.index l [58]).toNat) : Nat) : Int) + ((val (l.drop ((Lib.index l [58]).toNat + 1)) : Nat) : Int)).toNat = val (l.take (Lib.index l [58]).toNat) * 65536 + val (l.drop ((Lib.index l [58]).toNat + 1)) by omega]
      refine ⟨?_, by omega⟩
      rw [textL_eq _ _ b2, a4, b4]
      have h2 := (index_one_at (s := l) (c := 58) (by omega)).2
      rw [← h2, List.take_append_drop]
theorem parse_same (l : List UInt8) : parseA l = parseR l := by
  cases h : parseA l with
  | some c =>
    obtain ⟨h1, h2⟩ := parseA_some h
    rw [← h1, parseR_text c h2]
  | none =>
    cases h' : parseR l with
    | none => rfl
    | some c =>
      obtain ⟨h1, h2⟩ := parseR_some h'
      rw [← h1, parseA_text c h2] at h
      cases h
end Go.Proofs.YtopckpjhdbjmbaaDoor.Ld
