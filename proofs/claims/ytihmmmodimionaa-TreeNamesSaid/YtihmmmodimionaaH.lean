import Derived.Test.YtihmmmodimionaaG
namespace Go.Proofs.Ytihmmmodimionaa.Lx
open Go.RowKit

theorem T_cons (b : ByteArray) (h : 0 < b.size) : T b = b[0] :: (T b).drop 1 := by
  have := T_drop b 0 h
  rwa [List.drop_zero] at this
theorem head_T (b : ByteArray) (h : 0 < b.size) : (T b).headD 0 = b[0] := by rw [T_cons b h]; rfl
theorem u8_int (x : UInt8) (n : Nat) (h : n < 256) : x = UInt8.ofNat n ↔ (x.toNat : Int) = n := by rw [u8_eq x n h]; omega

theorem token_any (R : Nat) (b : ByteArray) (l c : Int) (w : World) (hb0 : 0 < b.size) (hbs : b.size ≤ 65536) (hl : 1 ≤ l) (hl2 : l + b.size ≤ 1000000) (hc : 1 ≤ c) (hc2 : c + b.size ≤ 1000000) (hr : RdR w R b l c)
    (hR : R ≠ 0) (m : Int) (hm : w.cell? ⟨0, 0, none⟩ = some (.int .i64 m)) (hok : ∀ x ∈ T b, x = 10 ∨ (32 ≤ x.toNat ∧ x.toNat ≤ 126)) :
    Calls Try.prog 29 #[.pointer (some ⟨R, 0, none⟩)] w (TokPost R b l c w) := by
  have hh := head_T b hb0
  have e32 : b[0] = 32 ↔ (b[0].toNat : Int) = 32 := u8_int b[0] 32 (by omega)
  have e10 : b[0] = 10 ↔ (b[0].toNat : Int) = 10 := u8_int b[0] 10 (by omega)
  have e35 : b[0] = 35 ↔ (b[0].toNat : Int) = 35 := u8_int b[0] 35 (by omega)
  have e34 : b[0] = 34 ↔ (b[0].toNat : Int) = 34 := u8_int b[0] 34 (by omega)
  have hs : step (T b) = step (T b) := rfl
  conv at hs => rhs; unfold step; rw [hh]
  by_cases h1 : b[0] = 32 ∨ b[0] = 10
  · rw [if_pos h1] at hs
    exact token_blank R b l c w hb0 hbs hl hl2 hc hc2 hr (by rcases h1 with h | h; exact .inl (e32.1 h); exact .inr (e10.1 h)) hs
  rw [if_neg h1] at hs
  have n32 : ¬ (b[0].toNat : Int) = 32 := fun h => h1 (.inl (e32.2 h))
  have n10 : ¬ (b[0].toNat : Int) = 10 := fun h => h1 (.inr (e10.2 h))
  by_cases h2 : b[0] = 35
  · rw [if_pos h2] at hs
    exact token_hash R b l c w hb0 hbs hl hl2 hc hc2 hr (e35.1 h2) hs
  rw [if_neg h2] at hs
  have n35 : ¬ (b[0].toNat : Int) = 35 := fun h => h2 (e35.2 h)
  cases hp : Lib.hasPrefix (T b) [47, 42]
  · rw [if_neg (by rw [hp]; decide)] at hs
    by_cases h3 : b[0] = 34
    · rw [if_pos h3] at hs
      have hasc : ∀ (j : Nat) (x : UInt8), ((T b).drop 1)[j]? = some x → x.toNat < 128 := fun j x hx => by
        have hmem : x ∈ T b := List.mem_of_mem_drop (List.mem_of_getElem? hx)
        rcases hok x hmem with h | h
        · rw [h]; decide
        · omega
      by_cases h4 : Lib.indexAny ((T b).drop 1) [34, 10] < 0
      · rw [if_pos (.inl h4)] at hs
        exact token_q1 R b l c w hb0 hbs hl hl2 hc hc2 hr (e34.1 h3) hasc hp h4 hs
      · by_cases h5 : (T b).getD ((Lib.indexAny ((T b).drop 1) [34, 10]).toNat + 1) 0 = 10
        · rw [if_pos (.inr h5)] at hs
          exact token_q2 R b l c w hb0 hbs hl hl2 hc hc2 hr (e34.1 h3) hasc hp (by omega) h5 hs
        · rw [if_neg (fun h => h.elim h4 h5)] at hs
          exact token_q3 R b l c w hb0 hbs hl hl2 hc hc2 hr (e34.1 h3) hasc hp (by omega) h5 hs
    · rw [if_neg h3] at hs
      have n34 : ¬ (b[0].toNat : Int) = 34 := fun h => h3 (e34.2 h)
      by_cases h6 : (0 : Int) ≤ Lib.indexByte signs b[0]
      · rw [if_pos h6] at hs
        exact token_sign R b l c w hb0 hbs hl hl2 hc hc2 hr ⟨n32, n10, n35, n34⟩ hp h6 hs
      · rw [if_neg h6] at hs
        exact token_word R b l c w hb0 hbs hl hl2 hc hc2 hr ⟨n32, n10, n35, n34⟩ hp h6 hs
  · rw [if_pos hp] at hs
    by_cases h4 : Lib.index ((T b).drop 2) [42, 47] < 0
    · rw [if_pos h4] at hs
      exact token_open R b l c w hb0 hbs hl hl2 hc hc2 hr ⟨n32, n10, n35⟩ hR m hm hp h4 hs
    · rw [if_neg h4] at hs
      exact token_comment R b l c w hb0 hbs hl hl2 hc hc2 hr ⟨n32, n10, n35⟩ hR m hm hp (by omega) hs

/-- what a step takes: at least one byte, and no more than there are -/
theorem step_n (s : List UInt8) (h : s ≠ []) (he : (step s).err = false) : 1 ≤ (step s).n ∧ (step s).n ≤ s.length := by
  obtain ⟨x, xs, rfl⟩ := List.exists_cons_of_ne_nil h
  have hs : step (x :: xs) = step (x :: xs) := rfl
  conv at hs => rhs; unfold step; rw [show (x :: xs).headD 0 = x from rfl]
  by_cases h1 : x = 32 ∨ x = 10
  · rw [if_pos h1] at hs
    rw [hs]; simp
  rw [if_neg h1] at hs
  by_cases h2 : x = 35
  · rw [if_pos h2] at hs
    rw [hs]
    have := firstN_le is10 (x :: xs)
    refine ⟨?_, this⟩
    show 1 ≤ firstN is10 (x :: xs)
    rw [firstN, if_neg (by simp [is10, h2])]; omega
  rw [if_neg h2] at hs
  by_cases h3 : Lib.hasPrefix (x :: xs) [47, 42] = true
  · rw [if_pos h3] at hs
    by_cases h4 : Lib.index ((x :: xs).drop 2) [42, 47] < 0
    · rw [if_pos h4] at hs
      rw [hs] at he; cases he
    · rw [if_neg h4] at hs
      rw [hs]
      have := index_bound [42, 47] ((x :: xs).drop 2) (by omega)
      have hl := (List.isPrefixOf_iff_prefix.1 h3).length_le
      simp only [List.length_drop, List.length_cons, List.length_nil] at this hl ⊢
      omega
  rw [if_neg h3] at hs
  by_cases h4 : x = 34
  · rw [if_pos h4] at hs
    by_cases h5 : Lib.indexAny ((x :: xs).drop 1) [34, 10] < 0 ∨ (x :: xs).getD ((Lib.indexAny ((x :: xs).drop 1) [34, 10]).toNat + 1) 0 = 10
    · rw [if_pos h5] at hs
      rw [hs] at he; cases he
    · rw [if_neg h5] at hs
      rw [hs]
      have h6 : ¬ Lib.indexAny ((x :: xs).drop 1) [34, 10] < 0 := fun h => h5 (.inl h)
      have := indexAny_bound [34, 10] ((x :: xs).drop 1) (by omega)
      simp only [List.length_drop, List.length_cons] at this ⊢
      omega
  rw [if_neg h4] at hs
  by_cases h5 : (0 : Int) ≤ Lib.indexByte signs x
  · rw [if_pos h5] at hs
    rw [hs]; simp
  · rw [if_neg h5] at hs
    rw [hs]
    have := firstN_le isEnd (x :: xs)
    refine ⟨?_, this⟩
    show 1 ≤ firstN isEnd (x :: xs)
    rw [firstN, if_neg]
    · omega
    · intro hend
      rw [isEnd] at hend
      have hq : Lib.hasPrefix (x :: xs) [47, 42] = false := by simpa using h3
      rw [hq, Bool.or_false, decide_eq_true_eq] at hend
      have n32 : (32 == x) = false := beq_eq_false_iff_ne.2 (fun h => h1 (.inl h.symm))
      have n10 : (10 == x) = false := beq_eq_false_iff_ne.2 (fun h => h1 (.inr h.symm))
      have n35 : (35 == x) = false := beq_eq_false_iff_ne.2 (fun h => h2 h.symm)
      have n34 : (34 == x) = false := beq_eq_false_iff_ne.2 (fun h => h4 h.symm)
      simp only [Lib.indexByte, signs] at h5
      simp only [Lib.indexByte, endB, n32, n10, n34, n35] at hend
      cases c1 : ((123 : UInt8) == x) <;> cases c2 : ((125 : UInt8) == x) <;> cases c3 : ((59 : UInt8) == x) <;> cases c4 : ((91 : UInt8) == x) <;> cases c5 : ((93 : UInt8) == x) <;> simp [c1, c2, c3, c4, c5] at h5 hend
end Go.Proofs.Ytihmmmodimionaa.Lx
