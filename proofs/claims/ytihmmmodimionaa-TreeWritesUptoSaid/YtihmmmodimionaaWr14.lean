/- What the claim leans on, part 14 of 16: YP YQ WA WC. -/
import Derived.Test.YtihmmmodimionaaWr01
import Derived.Test.YtihmmmodimionaaWr02
import Derived.Test.YtihmmmodimionaaWr03
import Derived.Test.YtihmmmodimionaaWr04
import Derived.Test.YtihmmmodimionaaWr05
import Derived.Test.YtihmmmodimionaaWr06
import Derived.Test.YtihmmmodimionaaWr07
import Derived.Test.YtihmmmodimionaaWr08
import Derived.Test.YtihmmmodimionaaWr09
import Derived.Test.YtihmmmodimionaaWr10
import Derived.Test.YtihmmmodimionaaWr11
import Derived.Test.YtihmmmodimionaaWr12
import Derived.Test.YtihmmmodimionaaWr13
/- The document's blanks and quoted, walked (printed by gen_yp.py). -/
namespace Go.Proofs.Ytihmmmodimionaa.Tr
open Go.RowKit Go.Proofs.Ytihmmmodimionaa Go.Proofs.Ytihmmmodimionaa.Lx

/-! ### when a word is quoted: byte by byte -/
def specB (c : UInt8) : Bool := decide (c.toNat = 32) || (decide (c.toNat = 123) || (decide (c.toNat = 125) || (decide (c.toNat = 59) || (decide (c.toNat = 91) || (decide (c.toNat = 93) || decide (c.toNat = 35))))))
def slB (w : List UInt8) (k : Nat) : Bool := decide ((w.getD k 0).toNat = 47) && (decide (k + 1 < w.length) && decide ((w.getD (k + 1) 0).toNat = 42))
def qF (w : List UInt8) : Nat → Bool
  | 0 => decide (w = [])
  | k + 1 => qF w k || (specB (w.getD k 0) || slB w k)
theorem qF_iff (w : List UInt8) : ∀ n, qF w n = true ↔ w = [] ∨ ∃ k, k < n ∧ (specB (w.getD k 0) = true ∨ slB w k = true)
  | 0 => by
    rw [qF, decide_eq_true_eq]
    exact ⟨.inl, fun h => h.elim id (fun ⟨k, hk, _⟩ => absurd hk (Nat.not_lt_zero k))⟩
  | n + 1 => by
    rw [qF, Bool.or_eq_true, Bool.or_eq_true, qF_iff w n]
    constructor
    · rintro ((h | ⟨k, h1, h2⟩) | h)
      · exact .inl h
      · exact .inr ⟨k, by omega, h2⟩
      · exact .inr ⟨n, by omega, h⟩
    · rintro (h | ⟨k, h1, h2⟩)
      · exact .inl (.inl h)
      · by_cases hk : k = n
        · exact .inr (hk ▸ h2)
        · exact .inl (.inr ⟨k, by omega, h2⟩)
abbrev specS : List UInt8 := [32, 123, 125, 59, 91, 93, 35]
theorem spec_mem (c : UInt8) : specB c = true ↔ c ∈ specS := by
  have h : ∀ n : UInt8, c.toNat = n.toNat ↔ c = n := fun n => ⟨UInt8.toNat_inj.1, fun h => h ▸ rfl⟩
  have h1 := h 32
  have h2 := h 123
  have h3 := h 125
  have h4 := h 59
  have h5 := h 91
  have h6 := h 93
  have h7 := h 35
  simp only [specB, Bool.or_eq_true, decide_eq_true_eq, List.mem_cons, List.not_mem_nil, or_false]
  rw [← h1, ← h2, ← h3, ← h4, ← h5, ← h6, ← h7]
  rfl
theorem spec_any (w : List UInt8) : (0 ≤ Lib.indexAny w specS) ↔ ∃ k, k < w.length ∧ specB (w.getD k 0) = true := by
  constructor
  · intro h
    apply Classical.byContradiction
    intro hn
    have : Lib.indexAny w specS = -1 := Lib.indexAny_none (fun j b hj hb => by
      cases hc : specS.contains b with
      | false => rfl
      | true =>
        refine absurd ⟨j, hj, ?_⟩ hn
        rw [List.getD_eq_getElem?_getD, hb]
        exact (spec_mem b).2 (by simpa using hc))
    omega
  · rintro ⟨k, hk, hs⟩
    apply Classical.byContradiction
    intro hn
    rw [List.getD_eq_getElem?_getD, List.getElem?_eq_getElem hk] at hs
    exact anyIdx_not hn w[k] (List.getElem_mem hk) ((spec_mem _).1 hs)
theorem occ_sl (w : List UInt8) (k : Nat) : Lib.occAt w [47, 42] k = slB w k := by
  unfold Lib.occAt slB
  rcases Nat.lt_or_ge k w.length with h | h
  · rw [List.drop_eq_getElem_cons h, List.getD_eq_getElem?_getD, List.getElem?_eq_getElem h]
    have e1 : ∀ (a : UInt8), ((47 : UInt8) == a) = decide (a.toNat = 47) := fun a => by
      by_cases ha : a = 47
      · subst ha; rfl
      · rw [show decide (a.toNat = 47) = false from decide_eq_false (fun h => ha (UInt8.toNat_inj.1 h)), beq_eq_false_iff_ne]; exact fun h => ha h.symm
    have e2 : ∀ (a : UInt8), ((42 : UInt8) == a) = decide (a.toNat = 42) := fun a => by
      by_cases ha : a = 42
      · subst ha; rfl
      · rw [show decide (a.toNat = 42) = false from decide_eq_false (fun h => ha (UInt8.toNat_inj.1 h)), beq_eq_false_iff_ne]; exact fun h => ha h.symm
    rcases Nat.lt_or_ge (k + 1) w.length with h2 | h2
    · rw [List.drop_eq_getElem_cons h2, List.getD_eq_getElem?_getD, List.getElem?_eq_getElem h2, decide_eq_true h2]
      simp only [List.isPrefixOf, Option.getD_some, e1, e2, Bool.true_and, Bool.and_true]
    · rw [List.drop_eq_nil_of_le h2, show decide (k + 1 < w.length) = false from decide_eq_false (by omega)]
      simp [List.isPrefixOf]
  · rw [List.drop_eq_nil_of_le h, List.getD_eq_getElem?_getD, List.getElem?_eq_none h]
    rfl
theorem occ_none : ∀ (w p : List UInt8), p ≠ [] → ¬ (0 ≤ Lib.index w p) → ∀ k, Lib.occAt w p k = false
  | [], p, hp, _, k => by
    unfold Lib.occAt
    rw [List.drop_nil]
    cases p with
    | nil => exact absurd rfl hp
    | cons a t => rfl
  | x :: xs, p, hp, h, 0 => (idx_cons h).1
  | x :: xs, p, hp, h, k + 1 => occ_none xs p hp (idx_cons h).2 k
theorem sl_any (w : List UInt8) : (0 ≤ Lib.index w [47, 42]) ↔ ∃ k, k < w.length ∧ slB w k = true := by
  constructor
  · intro h
    apply Classical.byContradiction
    intro hn
    have : Lib.index w [47, 42] = -1 := Lib.index_none (fun j hj => by
      rw [occ_sl]
      cases hc : slB w j with
      | false => rfl
      | true =>
        refine absurd ⟨j, ?_, hc⟩ hn
        unfold slB at hc
        simp only [Bool.and_eq_true, decide_eq_true_eq] at hc
        omega)
    omega
  · rintro ⟨k, hk, hs⟩
    apply Classical.byContradiction
    intro hn
    have := occ_none w [47, 42] (by simp) hn k
    rw [occ_sl, hs] at this
    cases this
theorem qF_all (w : List UInt8) : qF w w.length = true ↔ w = [] ∨ 0 ≤ Lib.indexAny w specS ∨ 0 ≤ Lib.index w [47, 42] := by
  rw [qF_iff, spec_any, sl_any]
  constructor
  · rintro (h | ⟨k, h1, h2 | h2⟩)
    · exact .inl h
    · exact .inr (.inl ⟨k, h1, h2⟩)
    · exact .inr (.inr ⟨k, h1, h2⟩)
  · rintro (h | ⟨k, h1, h2⟩ | ⟨k, h1, h2⟩)
    · exact .inl h
    · exact .inr ⟨k, h1, .inl h2⟩
    · exact .inr ⟨k, h1, .inr h2⟩
theorem quote_end {w : List UInt8} (h : ∀ c ∈ w, badB c = false) : quoteV w = if qF w w.length = true then .tuple #[.string ⟨([34] ++ w ++ [34]).toArray⟩, .bool true] else .tuple #[.string ⟨w.toArray⟩, .bool true] := by
  have hany : w.any badB = false := by
    rw [List.any_eq_false]
    intro c hc
    rw [h c hc]; decide
  unfold quoteV quoteT
  rw [if_neg (by rw [hany]; decide)]
  by_cases hc : qF w w.length = true
  · rw [if_pos hc, if_pos ((qF_all w).1 hc)]
  · rw [if_neg hc, if_neg (fun h => hc ((qF_all w).2 h))]
/-! ### blanks -/
set_option maxRecDepth 100000 in
theorem blanks_any (n : Nat) (w : World) (hn : n ≤ 1000) : Calls Try.prog 49 #[.int .i64 n] w fun e w' => e = .returned (.string ⟨(indT n).toArray⟩) ∧ w' = w := by
  go_enter Try.func49, Try.ntmps49
  go_wp2_with fail
  go_loopw [3, 4] (fun y j wr => ∃ i : Nat, y = .string ⟨(indT i).toArray⟩ ∧ j = .int .i64 i ∧ i ≤ n ∧ wr = w) (fun _ j _ => n - (intOf j).toNat)
  case atStart => exact ⟨0, rfl, rfl, Nat.zero_le _, rfl⟩
  case round =>
    obtain ⟨i, rfl, rfl, hi, rfl⟩ := hrel
    rcases Nat.lt_or_ge i n with hlt | hge
    · have d1 : decide (i < n) = true := decide_eq_true hlt
      have d1' : decide ((i : Int) < (n : Int)) = true := decide_eq_true (by omega)
      have HLT := hide hlt
      have hil : (indT i).length + 4 ≤ 5000 := by unfold indT; rw [List.length_replicate]; omega
      go_wp2_with fail
      refine ⟨⟨i + 1, ?_, by go_num, HLT.out, by first | rfl | trivial⟩, by have := HLT.out; simp [intOf]; omega⟩
      congr 1
      apply ByteArray.ext
      rw [ByteArray.data_append]
      unfold indT
      rw [show 4 * (i + 1) = 4 * i + 4 by omega, ← List.replicate_append_replicate]
      simp
    · obtain rfl : i = n := by omega
      have d1 : decide (i < i) = false := decide_eq_false (by omega)
      have d1' : decide ((i : Int) < (i : Int)) = false := decide_eq_false (by omega)
      go_wp2_with fail
      go_ret
      exact ⟨rfl, rfl⟩
/-! ### quoted -/
set_option maxHeartbeats 4000000 in
set_option maxRecDepth 100000 in
theorem rquoted_any (s : ByteArray) (w : World) (hs : s.size ≤ 1099511627776) : Calls Try.prog 50 #[.string s] w fun e w' => e = .returned (quoteV (T s)) ∧ w' = w := by
  have hln : (T s).length = s.size := T_len s
  have HLN := hide hln
  have h0 : s.toList.isEmpty = qF (T s) 0 := by
    rw [ByteArray.toList_eq, show s.data.toList = T s from rfl, qF]
    cases T s <;> simp
  clear hln
  go_enter Try.func50, Try.ntmps50
  go_wp2_with fail
  go_loopw [4, 5] (fun y j wr => ∃ (k : Nat) (b : Bool), y = .bool b ∧ b = qF (T s) k ∧ j = .int .i64 k ∧ k ≤ s.size ∧ wr = w ∧ ∀ i : Nat, i < k → badB ((T s).getD i 0) = false) (fun _ j _ => s.size - (intOf j).toNat)
  case atStart => exact ⟨0, _, rfl, by first | exact h0 | rfl, rfl, Nat.zero_le _, rfl, fun i hi => absurd hi (Nat.not_lt_zero i)⟩
  case round =>
    clear h0
    obtain ⟨k, b, rfl, hb, rfl, hk, rfl, hbs⟩ := hrel
    have HBS := hide hbs
    have HB := hide hb
    clear hbs hb
    rcases Nat.lt_or_ge k s.size with hlt | hge
    · have hq : badB ((T s).getD k 0) = true → quoteV (T s) = .tuple #[.string ⟨#[]⟩, .bool false] := fun hb => by
        have : (T s).any badB = true := any_get (k := k) (by have := HLN.out; omega) (by
          rw [← hb]
          congr 1
          rw [List.getD_eq_getElem?_getD, List.getElem?_eq_getElem (by have := HLN.out; omega)]
          rfl)
        unfold quoteV quoteT
        rw [if_pos this]
      have HQ := hide hq
      have HLT := hide hlt
      have d1 : decide (k < s.size) = true := decide_eq_true hlt
      have d1' : decide ((k : Int) < (s.size : Int)) = true := decide_eq_true (by omega)
      have d2 : ((k : Int) < (s.size : Int)) := by omega
      have HBD := hide (show badB ((T s).getD k 0) = (decide (((T s).getD k 0).toNat < 32) || decide (126 < ((T s).getD k 0).toNat) || decide (((T s).getD k 0).toNat = 34)) from rfl)
      have HNX := hide (show qF (T s) (k + 1) = (qF (T s) k || (specB ((T s).getD k 0) || slB (T s) k)) from rfl)
      have HSP := hide (show specB ((T s).getD k 0) = (decide (((T s).getD k 0).toNat = 32) || (decide (((T s).getD k 0).toNat = 123) || (decide (((T s).getD k 0).toNat = 125) || (decide (((T s).getD k 0).toNat = 59) || (decide (((T s).getD k 0).toNat = 91) || (decide (((T s).getD k 0).toNat = 93) || decide (((T s).getD k 0).toNat = 35))))))) from rfl)
      have HSL := hide (show slB (T s) k = (decide (((T s).getD k 0).toNat = 47) && (decide (k + 1 < s.size) && decide (((T s).getD (k + 1) 0).toNat = 42))) from by rw [← HLN.out]; rfl)
      have hxs : (s[k]'hlt).toNat = ((T s).getD k 0).toNat := by
        rw [List.getD_eq_getElem?_getD, List.getElem?_eq_getElem (by have := HLN.out; omega)]
        rfl
      have HYS := hide (show ∀ h : k + 1 < s.size, (s[k + 1]'h).toNat = ((T s).getD (k + 1) 0).toNat from fun h => by
        rw [List.getD_eq_getElem?_getD, List.getElem?_eq_getElem (by have := HLN.out; omega)]
        rfl)
      clear hq
      generalize hcc : (T s).getD k 0 = cc at *
      generalize hcy : (T s).getD (k + 1) 0 = cy at *
      have hx : cc.toNat < 256 := cc.toNat_lt
      have hy : cy.toNat < 256 := cy.toNat_lt
      have HCC := hide hcc
      clear hcc hcy
      generalize hcx : cc.toNat = x at *
      generalize hcz : cy.toNat = y at *
      have HXS := hide hxs
      clear hxs hcx hcz
      by_cases h1 : x < 32
      · have e1 : decide (((s[k]'hlt).toNat : Int) < 32) = true := decide_eq_true (by have := HXS.out; omega)
        have HE := hide (HQ.out (by rw [HBD.out]; simp [h1]))
        clear h1
        go_wp2_with fail
        (try simp only [Exit.inBlock, Exit.then])
        go_returns
        exact ⟨by rw [HE.out]; rfl, rfl⟩
      have e1 : decide (((s[k]'hlt).toNat : Int) < 32) = false := decide_eq_false (by have := HXS.out; omega)
      by_cases h2 : 126 < x
      · have e2 : decide ((126 : Int) < ((s[k]'hlt).toNat : Int)) = true := decide_eq_true (by have := HXS.out; omega)
        have HE := hide (HQ.out (by rw [HBD.out]; simp [h2]))
        clear h1 h2
        go_wp2_with fail
        (try simp only [Exit.inBlock, Exit.then])
        go_returns
        exact ⟨by rw [HE.out]; rfl, rfl⟩
      have e2 : decide ((126 : Int) < ((s[k]'hlt).toNat : Int)) = false := decide_eq_false (by have := HXS.out; omega)
      by_cases h3 : x = 34
      · have e3 : (((s[k]'hlt).toNat : Int) == 34) = true := beq_it (by have := HXS.out; omega)
        have HE := hide (HQ.out (by rw [HBD.out]; simp [h3]))
        clear h1 h2 h3
        go_wp2_with fail
        (try simp only [Exit.inBlock, Exit.then])
        go_returns
        exact ⟨by rw [HE.out]; rfl, rfl⟩
      have e3 : (((s[k]'hlt).toNat : Int) == 34) = false := beq_if (by have := HXS.out; omega)
      have HE := hide (show badB cc = false from by rw [HBD.out]; simp [h3]; omega)
      have HREL := hide (show ∀ (v : Bool), qF (T s) (k + 1) = v → ∃ (k' : Nat) (b : Bool), Value.bool v = .bool b ∧ b = qF (T s) k' ∧ k' = k + 1 ∧ k' ≤ s.size ∧ (∀ i : Nat, i < k' → badB ((T s).getD i 0) = false) from fun v hv => ⟨k + 1, v, rfl, hv.symm, rfl, HLT.out, fun i hi => by
        rcases Nat.lt_or_ge i k with h | h
        · exact HBS.out i h
        · obtain rfl : i = k := by omega
          rw [HCC.out]
          exact HE.out⟩)
      clear h1 h2 h3
      cases b with
      | true =>
        have HV := hide (show qF (T s) (k + 1) = true from by rw [HNX.out, ← HB.out]; simp)
        clear hx hy
        go_wp2_with fail
        refine ⟨?_, by have := HLT.out; simp [intOf]; omega⟩
        obtain ⟨k', b', e1, e2, rfl, e4, e5⟩ := HREL.out _ HV.out
        exact ⟨k + 1, b', e1, e2, by go_num, e4, by first | rfl | trivial, e5⟩
      | false =>
        by_cases g0 : x = 32
        · have f0 : (((s[k]'hlt).toNat : Int) == 32) = true := beq_it (by have := HXS.out; omega)
          have HV := hide (show qF (T s) (k + 1) = true from by rw [HNX.out, ← HB.out, HSP.out, g0]; simp)
          clear hx hy g0
          go_wp2_with fail
          refine ⟨?_, by have := HLT.out; simp [intOf]; omega⟩
          obtain ⟨k', b', e1, e2, rfl, e4, e5⟩ := HREL.out _ HV.out
          exact ⟨k + 1, b', e1, e2, by go_num, e4, by first | rfl | trivial, e5⟩
        have f0 : (((s[k]'hlt).toNat : Int) == 32) = false := beq_if (by have := HXS.out; omega)
        by_cases g1 : x = 123
        · have f1 : (((s[k]'hlt).toNat : Int) == 123) = true := beq_it (by have := HXS.out; omega)
          have HV := hide (show qF (T s) (k + 1) = true from by rw [HNX.out, ← HB.out, HSP.out, g1]; simp)
          clear hx hy g0 g1
          go_wp2_with fail
          refine ⟨?_, by have := HLT.out; simp [intOf]; omega⟩
          obtain ⟨k', b', e1, e2, rfl, e4, e5⟩ := HREL.out _ HV.out
          exact ⟨k + 1, b', e1, e2, by go_num, e4, by first | rfl | trivial, e5⟩
        have f1 : (((s[k]'hlt).toNat : Int) == 123) = false := beq_if (by have := HXS.out; omega)
        by_cases g2 : x = 125
        · have f2 : (((s[k]'hlt).toNat : Int) == 125) = true := beq_it (by have := HXS.out; omega)
          have HV := hide (show qF (T s) (k + 1) = true from by rw [HNX.out, ← HB.out, HSP.out, g2]; simp)
          clear hx hy g0 g1 g2
          go_wp2_with fail
          refine ⟨?_, by have := HLT.out; simp [intOf]; omega⟩
          obtain ⟨k', b', e1, e2, rfl, e4, e5⟩ := HREL.out _ HV.out
          exact ⟨k + 1, b', e1, e2, by go_num, e4, by first | rfl | trivial, e5⟩
        have f2 : (((s[k]'hlt).toNat : Int) == 125) = false := beq_if (by have := HXS.out; omega)
        by_cases g3 : x = 59
        · have f3 : (((s[k]'hlt).toNat : Int) == 59) = true := beq_it (by have := HXS.out; omega)
          have HV := hide (show qF (T s) (k + 1) = true from by rw [HNX.out, ← HB.out, HSP.out, g3]; simp)
          clear hx hy g0 g1 g2 g3
          go_wp2_with fail
          refine ⟨?_, by have := HLT.out; simp [intOf]; omega⟩
          obtain ⟨k', b', e1, e2, rfl, e4, e5⟩ := HREL.out _ HV.out
          exact ⟨k + 1, b', e1, e2, by go_num, e4, by first | rfl | trivial, e5⟩
        have f3 : (((s[k]'hlt).toNat : Int) == 59) = false := beq_if (by have := HXS.out; omega)
        by_cases g4 : x = 91
        · have f4 : (((s[k]'hlt).toNat : Int) == 91) = true := beq_it (by have := HXS.out; omega)
          have HV := hide (show qF (T s) (k + 1) = true from by rw [HNX.out, ← HB.out, HSP.out, g4]; simp)
          clear hx hy g0 g1 g2 g3 g4
          go_wp2_with fail
          refine ⟨?_, by have := HLT.out; simp [intOf]; omega⟩
          obtain ⟨k', b', e1, e2, rfl, e4, e5⟩ := HREL.out _ HV.out
          exact ⟨k + 1, b', e1, e2, by go_num, e4, by first | rfl | trivial, e5⟩
        have f4 : (((s[k]'hlt).toNat : Int) == 91) = false := beq_if (by have := HXS.out; omega)
        by_cases g5 : x = 93
        · have f5 : (((s[k]'hlt).toNat : Int) == 93) = true := beq_it (by have := HXS.out; omega)
          have HV := hide (show qF (T s) (k + 1) = true from by rw [HNX.out, ← HB.out, HSP.out, g5]; simp)
          clear hx hy g0 g1 g2 g3 g4 g5
          go_wp2_with fail
          refine ⟨?_, by have := HLT.out; simp [intOf]; omega⟩
          obtain ⟨k', b', e1, e2, rfl, e4, e5⟩ := HREL.out _ HV.out
          exact ⟨k + 1, b', e1, e2, by go_num, e4, by first | rfl | trivial, e5⟩
        have f5 : (((s[k]'hlt).toNat : Int) == 93) = false := beq_if (by have := HXS.out; omega)
        by_cases g6 : x = 35
        · have f6 : (((s[k]'hlt).toNat : Int) == 35) = true := beq_it (by have := HXS.out; omega)
          have HV := hide (show qF (T s) (k + 1) = true from by rw [HNX.out, ← HB.out, HSP.out, g6]; simp)
          clear hx hy g0 g1 g2 g3 g4 g5 g6
          go_wp2_with fail
          refine ⟨?_, by have := HLT.out; simp [intOf]; omega⟩
          obtain ⟨k', b', e1, e2, rfl, e4, e5⟩ := HREL.out _ HV.out
          exact ⟨k + 1, b', e1, e2, by go_num, e4, by first | rfl | trivial, e5⟩
        have f6 : (((s[k]'hlt).toNat : Int) == 35) = false := beq_if (by have := HXS.out; omega)
        have HSF := hide (show specB cc = false from by rw [HSP.out]; simp [g0, g1, g2, g3, g4, g5, g6])
        clear g0 g1 g2 g3 g4 g5 g6
        by_cases g7 : x = 47
        · have f7 : (((s[k]'hlt).toNat : Int) == 47) = true := beq_it (by have := HXS.out; omega)
          by_cases g8 : k + 1 < s.size
          · have d3 : decide (k + 1 < s.size) = true := decide_eq_true g8
            have d3' : decide (((k : Int) + 1) < (s.size : Int)) = true := decide_eq_true (by have := HXS.out; omega)
            have d4 : ((k : Int) + 1 < (s.size : Int)) := by omega
            by_cases g9 : y = 42
            · have f9 : (((s[k + 1]'g8).toNat : Int) == 42) = true := beq_it (by have := HYS.out g8; omega)
              have HV := hide (show qF (T s) (k + 1) = true from by rw [HNX.out, ← HB.out, HSF.out, HSL.out, g7, g9, decide_eq_true g8]; simp)
              clear hx hy g7 g9
              go_wp2_with fail
              refine ⟨?_, by have := HLT.out; simp [intOf]; omega⟩
              obtain ⟨k', b', e1, e2, rfl, e4, e5⟩ := HREL.out _ HV.out
              exact ⟨k + 1, b', e1, e2, by go_num, e4, by first | rfl | trivial, e5⟩
            · have f9 : (((s[k + 1]'g8).toNat : Int) == 42) = false := beq_if (by have := HYS.out g8; omega)
              have HV := hide (show qF (T s) (k + 1) = false from by rw [HNX.out, ← HB.out, HSF.out, HSL.out, decide_eq_false g9]; simp)
              clear hx hy g7 g9
              go_wp2_with fail
              refine ⟨?_, by have := HLT.out; simp [intOf]; omega⟩
              obtain ⟨k', b', e1, e2, rfl, e4, e5⟩ := HREL.out _ HV.out
              exact ⟨k + 1, b', e1, e2, by go_num, e4, by first | rfl | trivial, e5⟩
          · have d3 : decide (k + 1 < s.size) = false := decide_eq_false g8
            have d3' : decide (((k : Int) + 1) < (s.size : Int)) = false := decide_eq_false (by have := HXS.out; omega)
            have HV := hide (show qF (T s) (k + 1) = false from by rw [HNX.out, ← HB.out, HSF.out, HSL.out, decide_eq_false g8]; simp)
            clear hx hy g7 g8
            go_wp2_with fail
            refine ⟨?_, by have := HLT.out; simp [intOf]; omega⟩
            obtain ⟨k', b', e1, e2, rfl, e4, e5⟩ := HREL.out _ HV.out
            exact ⟨k + 1, b', e1, e2, by go_num, e4, by first | rfl | trivial, e5⟩
        · have f7 : (((s[k]'hlt).toNat : Int) == 47) = false := beq_if (by have := HXS.out; omega)
          have HV := hide (show qF (T s) (k + 1) = false from by rw [HNX.out, ← HB.out, HSF.out, HSL.out, decide_eq_false g7]; simp)
          clear hx hy g7
          go_wp2_with fail
          refine ⟨?_, by have := HLT.out; simp [intOf]; omega⟩
          obtain ⟨k', b', e1, e2, rfl, e4, e5⟩ := HREL.out _ HV.out
          exact ⟨k + 1, b', e1, e2, by go_num, e4, by first | rfl | trivial, e5⟩
    · obtain rfl : k = s.size := by omega
      have d1 : decide (s.size < s.size) = false := decide_eq_false (by omega)
      have d1' : decide ((s.size : Int) < (s.size : Int)) = false := decide_eq_false (by omega)
      have hall : ∀ c ∈ T s, badB c = false := by
        intro c hc
        obtain ⟨i, hi, rfl⟩ := List.getElem_of_mem hc
        have := HBS.out i (by have := HLN.out; omega)
        rw [List.getD_eq_getElem?_getD, List.getElem?_eq_getElem hi] at this
        exact this
      have hqe := quote_end hall
      rw [HLN.out, ← HB.out] at hqe
      have HE0 := hide hqe
      clear hall hqe hge hk
      cases b with
      | true =>
        have HE := hide (HE0.out.trans (if_pos rfl))
        clear HE0
        go_wp2_with fail
        (try simp only [Exit.inBlock, Exit.then])
        go_returns
        exact ⟨by rw [HE.out, ← quote_bytes s _ rfl]; rfl, rfl⟩
      | false =>
        have HE := hide (HE0.out.trans (if_neg (by decide)))
        clear HE0
        go_wp2_with fail
        (try simp only [Exit.inBlock, Exit.then])
        go_returns
        exact ⟨by rw [HE.out]; rfl, rfl⟩
end Go.Proofs.Ytihmmmodimionaa.Tr
/- The document's Print, walked over good rows (printed by gen_yq.py). -/
namespace Go.Proofs.Ytihmmmodimionaa.Tr
open Go.RowKit Go.Proofs.Ytihmmmodimionaa Go.Proofs.Ytihmmmodimionaa.Lx

theorem join_snoc (qs : List (List UInt8)) (q : List UInt8) : Lib.join (qs ++ [q]) [32] = if qs.length = 0 then q else Lib.join qs [32] ++ [32] ++ q := by
  cases qs with
  | nil => rw [if_pos (show ([] : List (List UInt8)).length = 0 from rfl), List.nil_append, Lib.join_one]
  | cons x r =>
    rw [if_neg (by simp), List.cons_append, Lib.join_cons, Lib.join_cons]
    simp [Lib.joinTail]
structure PrL (A : List RowD) (i d : Nat) (acc : ByteArray) : Prop where
  il : i ≤ A.length
  eq : prR 0 A = oApp (some (T acc)) (prR d (A.drop i))
  ok : ∃ d0, d0 ≤ d ∧ okR d0 (A.drop i)
  d31 : d ≤ 31
  sz : acc.size ≤ i * 16777216
structure ClL (acc : ByteArray) (d z : Nat) (acc' : ByteArray) (d' : Nat) : Prop where
  zl : z ≤ d'
  dl : d' ≤ d
  eq : T acc' ++ closesT d' z = T acc ++ closesT d z
  sz : acc'.size + d' * 200 ≤ acc.size + d * 200
theorem ClL.refl {acc : ByteArray} {d z : Nat} (h : z ≤ d) : ClL acc d z acc d := ⟨h, Nat.le_refl _, rfl, Nat.le_refl _⟩
theorem indT_len (d : Nat) : (indT d).length = 4 * d := by unfold indT; rw [List.length_replicate]
theorem ClL.step {acc acc' : ByteArray} {d z m : Nat} (h : ClL acc d z acc' (m + 1)) (hz : z ≤ m) (hm : m ≤ 31) : ClL acc d z ((acc' ++ ⟨(indT m).toArray⟩) ++ ⟨#[125, 10]⟩) m := by
  refine ⟨hz, by have := h.dl; omega, ?_, ?_⟩
  · rw [← h.eq, closesT, if_pos hz, T_cat, T_cat, T_mk (indT m)]
    simp [T]
  · have h1 := h.sz
    have h2 := indT_len m
    rw [size_cat, size_cat, size_mk (indT m), show (⟨#[125, 10]⟩ : ByteArray).size = 2 from rfl]
    omega
structure WdL (acc : ByteArray) (ws : List ByteArray) (acc' : ByteArray) (k : Nat) (qs : List (List UInt8)) : Prop where
  kl : k ≤ ws.length
  eq : T acc' = T acc ++ Lib.join qs [32]
  q : quotesT ws = preQ qs (quotesT (ws.drop k))
  len : qs.length = k
  sz : acc'.size ≤ acc.size + k * 1048584
theorem WdL.refl (acc : ByteArray) (ws : List ByteArray) : WdL acc ws acc 0 [] := ⟨Nat.zero_le _, by rw [Lib.join_nil, List.append_nil], by rw [preQ_nil, List.drop_zero], rfl, by omega⟩
theorem WdL.step {acc acc' acc'' : ByteArray} {ws : List ByteArray} {k : Nat} {qs : List (List UInt8)} {u : ByteArray} {q : List UInt8} (h : WdL acc ws acc' k qs) (hu : ws[k]? = some u) (hq : quoteT (T u) = some q) (hs : u.size ≤ 1048576) (ha : acc'' = if k = 0 then acc' ++ ⟨q.toArray⟩ else (acc' ++ ⟨#[32]⟩) ++ ⟨q.toArray⟩) : WdL acc ws acc'' (k + 1) (qs ++ [q]) := by
  obtain ⟨hk, hg⟩ := List.getElem?_eq_some_iff.1 hu
  have hd : ws.drop k = u :: ws.drop (k + 1) := by rw [List.drop_eq_getElem_cons hk, hg]
  have h1 := h.q
  rw [hd] at h1
  have hl := quoteT_len hq
  rw [T_len] at hl
  refine ⟨hk, ?_, quotes_some h1 hq, by rw [List.length_append, h.len]; rfl, ?_⟩
  · rw [join_snoc, h.len, ha]
    by_cases hk0 : k = 0
    · have hqs : qs = [] := List.eq_nil_of_length_eq_zero (by rw [h.len, hk0])
      have h2 := h.eq
      rw [hqs, Lib.join_nil, List.append_nil] at h2
      rw [if_pos hk0, if_pos hk0, T_cat, T_mk q, h2]
    · rw [if_neg hk0, if_neg hk0, T_cat, T_cat, T_mk q, h.eq]
      simp [T]
  · have h2 := h.sz
    rw [ha]
    split
    · rw [size_cat, size_mk q]; omega
    · rw [size_cat, size_cat, size_mk q, show (⟨#[32]⟩ : ByteArray).size = 1 from rfl]; omega
theorem prR_bad {A : List RowD} {i d : Nat} {acc : ByteArray} {r : RowD} (h : PrL A i d acc) (hr : A[i]? = some r) (hq : quotesT r.ws = none) : prR 0 A = none := by
  rw [h.eq, drop_at hr, prR, headR, hq]
  split <;> rfl
theorem PrL.step {A : List RowD} {i d : Nat} {acc acc1 acc2 acc3 : ByteArray} {r : RowD} {qs : List (List UInt8)} (h : PrL A i d acc) (hr : A[i]? = some r) (hc : ClL acc d r.deep acc1 r.deep) (hw : WdL (acc1 ++ ⟨(indT r.deep).toArray⟩) r.ws acc2 r.ws.length qs) (h8 : r.ws.length ≤ 8) (h30 : r.deep ≤ 30) (ha : acc3 = acc2 ++ ⟨(tailT r.op).toArray⟩) : PrL A (i + 1) (if r.op = true then r.deep + 1 else r.deep) acc3 := by
  obtain ⟨d0, hd0, hok⟩ := h.ok
  rw [drop_at hr] at hok
  obtain ⟨k1, k2, k3, k4, k5⟩ := hok
  have hq : quotesT r.ws = some qs := by rw [hw.q, List.drop_length]; simp [quotesT, preQ]
  have hil := (List.getElem?_eq_some_iff.1 hr).1
  have hdl := h.d31
  have hcd := hc.dl
  have hT1 : T acc1 = T acc ++ closesT d r.deep := by have := hc.eq; rwa [closes_self, List.append_nil] at this
  refine ⟨hil, ?_, ⟨nG r.op r.deep, by unfold nG; cases r.op with | false => simp | true => simp only [true_and, if_true]; split <;> omega, k5⟩, ?_, ?_⟩
  · rw [h.eq, drop_at hr, prR, headR, hq, if_neg (by rintro (e | ⟨_, e⟩) <;> omega), ha, T_cat, T_mk (tailT r.op), hw.eq, T_cat, T_mk (indT r.deep), hT1]
    simp only
    cases prR (if r.op = true then r.deep + 1 else r.deep) (A.drop (i + 1)) <;> simp [oApp]
  · split <;> omega
  · have s1 := h.sz
    have s2 := hc.sz
    have s3 := hw.sz
    have s4 := indT_len r.deep
    have s5 : (tailT r.op).length ≤ 3 := by cases r.op <;> decide
    rw [size_cat, size_mk (indT r.deep)] at s3
    rw [ha, size_cat, size_mk (tailT r.op)]
    omega
theorem PrL.fin {A : List RowD} {d : Nat} {acc acc1 : ByteArray} (h : PrL A A.length d acc) (hc : ClL acc d 0 acc1 0) : prR 0 A = some (T acc1) := by
  rw [h.eq, List.drop_length, prR]
  have := hc.eq
  rw [closes_self, List.append_nil] at this
  rw [this]
  rfl
theorem drop_str {ws : List ByteArray} {k : Nat} {u : ByteArray} (h : ws[k]? = some u) : ws.drop k = u :: ws.drop (k + 1) := by
  obtain ⟨h1, rfl⟩ := List.getElem?_eq_some_iff.1 h
  exact List.drop_eq_getElem_cons h1
set_option maxHeartbeats 8000000 in
set_option maxRecDepth 100000 in
theorem rprint_any (A : List RowD) (Av : Option Addr) (c : Nat) (xs : List Value) (D : Nat → Prop) (w : World) (hs : Src w Av A.length c 4 xs) (hv : RwV w D A xs) (hok : okR 0 A) (hlen : A.length ≤ 120) (hw : ∀ r ∈ A, ∀ u ∈ r.ws, u.size ≤ 1048576) :
    Calls Try.prog 25 #[.slice Av A.length c] w fun e w' => e = .returned (printV (prR 0 A)) ∧ w' = w := by
  have HX := hide hs
  have HV := hide hv
  have HW := hide hw
  have HALL := hide (okR_all A 0 (by omega) hok)
  have HP0 := hide (show PrL A 0 0 ⟨#[]⟩ from ⟨Nat.zero_le _, by rw [show T ⟨#[]⟩ = [] from rfl, oApp_nil, List.drop_zero], ⟨0, Nat.le_refl _, by rw [List.drop_zero]; exact hok⟩, by omega, by decide⟩)
  clear hs hv hw hok
  go_enter Try.func25, Try.ntmps25
  go_wp2_with fail
  go_loopw [4, 5, 6] (fun s dd ii wr => ∃ (acc : ByteArray) (d i : Nat), s = .string acc ∧ dd = .int .i64 d ∧ ii = .int .i64 i ∧ PrL A i d acc ∧ wr = w) (fun _ _ ii _ => A.length + 1 - (intOf ii).toNat)
  case atStart => exact ⟨⟨#[]⟩, 0, 0, rfl, rfl, rfl, HP0.out, rfl⟩
  case round =>
    clear HP0
    obtain ⟨acc, d, i, rfl, rfl, rfl, hP, rfl⟩ := hrel
    obtain ⟨wa, rfl⟩ : ∃ x, x = wr := ⟨wr, rfl⟩
    have HP := hide hP
    have hi := hP.il
    have hd31 := hP.d31
    have hsz : acc.size ≤ 2013265920 := by have := hP.sz; omega
    clear hP
    have c1 : decide (i ≤ A.length) = true := decide_eq_true hi
    have c1' : decide ((i : Int) ≤ (A.length : Int)) = true := decide_eq_true (by omega)
    rcases Nat.lt_or_ge i A.length with hlt | hge
    · obtain ⟨b1, o1, rfl⟩ := src_spot HX.out (by omega) (by decide)
      obtain ⟨r, hr⟩ : ∃ r, A[i]? = some r := ⟨A[i], List.getElem?_eq_getElem hlt⟩
      obtain ⟨vw, vp, g0, g1, g2, g3, hvw, hvp⟩ := HV.out.at hr
      obtain ⟨Aw, cw, rfl, hws, hwB⟩ := hvw
      have hmem := List.mem_of_getElem? hr
      obtain ⟨r1, r2, r3, r4⟩ := HALL.out r hmem
      obtain ⟨b2, o2, rfl⟩ := src_spot hws r2 (by decide)
      have sx := src_cells HX.out
      have x0 := sx _ _ g0
      have x1 := sx _ _ g1
      have x3 := sx _ _ g3
      rw [← Nat.add_assoc] at x1 x3
      have HWS := hide (src_cells hws)
      have HWZ := hide (HW.out r hmem)
      have HR := hide hr
      have hzd : r.deep ≤ d := by
        obtain ⟨d0, hd0, hok⟩ := HP.out.ok
        rw [drop_at hr] at hok
        exact Nat.le_trans hok.1 hd0
      have d1 : decide (i < A.length) = true := decide_eq_true hlt
      have d1' : decide ((i : Int) < (A.length : Int)) = true := decide_eq_true (by omega)
      have d2 : ((i : Int) < (A.length : Int)) := by omega
      have d3 : (i == A.length) = false := by simpa using Nat.ne_of_lt hlt
      have d3' : ((i : Int) == (A.length : Int)) = false := beq_if (by omega)
      have w1 : (r.ws.length == 0) = false := beq_eq_false_iff_ne.2 (by omega)
      have w1' : ((r.ws.length : Int) == 0) = false := beq_if (by omega)
      have HLT := hide hlt
      have HZD := hide hzd
      clear sx g0 g1 g2 g3 hvp hws hwB hmem r4 hr hlt
      go_wp2_with fail
      go_loopw [4, 5] (fun s dd wq => ∃ (acc' : ByteArray) (d' : Nat), s = .string acc' ∧ dd = .int .i64 d' ∧ ClL acc d r.deep acc' d' ∧ wq = wa) (fun _ dd _ => (intOf dd).toNat)
      case atStart => exact ⟨acc, d, rfl, rfl, ClL.refl (by omega), rfl⟩
      case round =>
        obtain ⟨acc', d', rfl, rfl, hC, hwq⟩ := hrel
        subst wr
        have HC := hide hC
        have hcd := hC.dl
        have hcz := hC.zl
        have hcs : acc'.size ≤ 2013300000 := by have := hC.sz; omega
        clear hC
        rcases Nat.lt_or_ge r.deep d' with hm | hm
        · obtain ⟨m, rfl⟩ : ∃ m, d' = m + 1 := ⟨d' - 1, by omega⟩
          have e1 : decide (r.deep < m + 1) = true := decide_eq_true hm
          have e1' : decide ((r.deep : Int) < ((m : Int) + 1)) = true := decide_eq_true (by omega)
          have e2 : ((m : Int) + 1 - 1) = (m : Int) := by omega
          have hil : (indT m).length ≤ 200 := by have := indT_len m; omega
          have HNX := hide (HC.out.step (by omega) (by omega))
          have HBK := hide (blanks_any m wa (by omega))
          go_wp2_with fail
          refine HBK.out.mono ?_
          rintro e wy ⟨rfl, hwy⟩
          subst wy
          go_wp2_with fail
          refine ⟨⟨_, m, rfl, by go_num, HNX.out, by first | rfl | trivial⟩, by simp [intOf]⟩
        · obtain rfl : d' = r.deep := by omega
          have e1 : decide (r.deep < r.deep) = false := decide_eq_false (by omega)
          have e1' : decide ((r.deep : Int) < (r.deep : Int)) = false := decide_eq_false (by omega)
          cases hro : r.op
          · rw [hro] at x3
            have HRO := hide hro
            have HBL := hide (blanks_any r.deep wa (by omega))
            have hil : (indT r.deep).length ≤ 200 := by have := indT_len r.deep; omega
            clear hro hcd hcz hm
            go_wp2_with fail
            refine HBL.out.mono ?_
            rintro e wy ⟨rfl, hwy⟩
            subst wy
            go_wp2_with fail
            have hac : (acc' ++ (⟨(indT r.deep).toArray⟩ : ByteArray)).size ≤ 2013300200 := by rw [size_cat, size_mk (indT r.deep)]; omega
            generalize hacc1 : acc' ++ (⟨(indT r.deep).toArray⟩ : ByteArray) = acc1 at *
            have HAC := hide hacc1
            clear hacc1 hcs hil HBL
            go_loopw [4, 8] (fun s kk wp => ∃ (acc2 : ByteArray) (k : Nat) (qs : List (List UInt8)), s = .string acc2 ∧ kk = .int .i64 k ∧ WdL acc1 r.ws acc2 k qs ∧ wp = wa) (fun _ kk _ => r.ws.length - (intOf kk).toNat)
            case atStart => exact ⟨acc1, 0, [], rfl, rfl, WdL.refl _ _, rfl⟩
            case round =>
              obtain ⟨acc2, k, qs, rfl, rfl, hL, hwp⟩ := hrel
              subst wr
              have HL := hide hL
              have hkl := hL.kl
              have hks : acc2.size ≤ 2100000000 := by have := hL.sz; omega
              clear hL
              rcases Nat.lt_or_ge k r.ws.length with hk | hk
              · have f1 : decide (k < r.ws.length) = true := decide_eq_true hk
                have f1' : decide ((k : Int) < (r.ws.length : Int)) = true := decide_eq_true (by omega)
                have f2 : ((k : Int) < (r.ws.length : Int)) := by omega
                obtain ⟨u, hu⟩ : ∃ u, r.ws[k]? = some u := ⟨r.ws[k], List.getElem?_eq_getElem hk⟩
                have y0 := HWS.out k (.string u) (by rw [List.getElem?_map, hu]; rfl)
                have hus := HWZ.out u (List.mem_of_getElem? hu)
                have HQU := hide (rquoted_any u wa (by omega))
                have HU := hide hu
                have HKL := hide hk
                clear hk hu
                cases hq : quoteT (T u) with
                | none =>
                  have HE := hide (show prR 0 A = none from prR_bad HP.out HR.out (by
                    have h1 := HL.out.q
                    rw [drop_str HU.out] at h1
                    exact quotes_none h1 hq))
                  rw [show quoteV (T u) = .tuple #[.string ⟨#[]⟩, .bool false] from by unfold quoteV; rw [hq]] at HQU
                  clear hq
                  go_wp2_with fail
                  refine HQU.out.mono ?_
                  rintro e wz ⟨rfl, hwz⟩
                  subst wz
                  go_wp2_with fail
                  (try simp only [Exit.inBlock, Exit.then])
                  go_returns
                  exact ⟨by rw [HE.out]; rfl, rfl⟩
                | some q =>
                  have hql : q.length ≤ 1048580 := by have := quoteT_len hq; rw [T_len] at this; omega
                  have HNS := hide (fun acc3 => WdL.step (acc'' := acc3) HL.out HU.out hq hus)
                  rw [show quoteV (T u) = .tuple #[.string ⟨q.toArray⟩, .bool true] from by unfold quoteV; rw [hq]] at HQU
                  clear hq hus
                  by_cases hk0 : k = 0
                  · have p1 : decide (0 < k) = false := decide_eq_false (by omega)
                    have p1' : decide ((0 : Int) < (k : Int)) = false := decide_eq_false (by omega)
                    have HKK := hide hk0
                    have p2 : (acc2 ++ (⟨#[32]⟩ : ByteArray)).size ≤ 2100000001 := by rw [size_cat, show (⟨#[32]⟩ : ByteArray).size = 1 from rfl]; omega
                    clear hk0
                    go_wp2_with fail
                    refine HQU.out.mono ?_
                    rintro e wz ⟨rfl, hwz⟩
                    subst wz
                    go_wp2_with fail
                    refine ⟨⟨_, k + 1, _, rfl, by go_num, HNS.out _ (by rw [if_pos HKK.out]), by first | rfl | trivial⟩, by have := HKL.out; simp [intOf]; omega⟩
                  · have p1 : decide (0 < k) = true := decide_eq_true (by omega)
                    have p1' : decide ((0 : Int) < (k : Int)) = true := decide_eq_true (by omega)
                    have HKK := hide hk0
                    have p2 : (acc2 ++ (⟨#[32]⟩ : ByteArray)).size ≤ 2100000001 := by rw [size_cat, show (⟨#[32]⟩ : ByteArray).size = 1 from rfl]; omega
                    clear hk0
                    go_wp2_with fail
                    refine HQU.out.mono ?_
                    rintro e wz ⟨rfl, hwz⟩
                    subst wz
                    go_wp2_with fail
                    refine ⟨⟨_, k + 1, _, rfl, by go_num, HNS.out _ (by rw [if_neg HKK.out]), by first | rfl | trivial⟩, by have := HKL.out; simp [intOf]; omega⟩
              · obtain rfl : k = r.ws.length := by omega
                have f1 : decide (r.ws.length < r.ws.length) = false := decide_eq_false (by omega)
                have f1' : decide ((r.ws.length : Int) < (r.ws.length : Int)) = false := decide_eq_false (by omega)
                have HNP := hide (show ∀ acc3, acc3 = acc2 ++ ⟨(tailT r.op).toArray⟩ → PrL A (i + 1) (if r.op = true then r.deep + 1 else r.deep) acc3 from fun acc3 h3 => HP.out.step HR.out HC.out (by rw [HAC.out]; exact HL.out) r3 r1 h3)
                rw [HRO.out] at HNP
                clear hk hkl
                go_wp2_with fail
                refine ⟨⟨_, r.deep, i + 1, rfl, by go_num, by go_num, HNP.out _ rfl, by first | rfl | trivial⟩, by have := HLT.out; simp [intOf]; omega⟩
          · rw [hro] at x3
            have HRO := hide hro
            have o1 : decide (32 ≤ r.deep) = false := decide_eq_false (by omega)
            have o1' : decide ((32 : Int) ≤ (r.deep : Int)) = false := decide_eq_false (by omega)
            have HBL := hide (blanks_any r.deep wa (by omega))
            have hil : (indT r.deep).length ≤ 200 := by have := indT_len r.deep; omega
            clear hro hcd hcz hm
            go_wp2_with fail
            refine HBL.out.mono ?_
            rintro e wy ⟨rfl, hwy⟩
            subst wy
            go_wp2_with fail
            have hac : (acc' ++ (⟨(indT r.deep).toArray⟩ : ByteArray)).size ≤ 2013300200 := by rw [size_cat, size_mk (indT r.deep)]; omega
            generalize hacc1 : acc' ++ (⟨(indT r.deep).toArray⟩ : ByteArray) = acc1 at *
            have HAC := hide hacc1
            clear hacc1 hcs hil HBL
            go_loopw [4, 8] (fun s kk wp => ∃ (acc2 : ByteArray) (k : Nat) (qs : List (List UInt8)), s = .string acc2 ∧ kk = .int .i64 k ∧ WdL acc1 r.ws acc2 k qs ∧ wp = wa) (fun _ kk _ => r.ws.length - (intOf kk).toNat)
            case atStart => exact ⟨acc1, 0, [], rfl, rfl, WdL.refl _ _, rfl⟩
            case round =>
              obtain ⟨acc2, k, qs, rfl, rfl, hL, hwp⟩ := hrel
              subst wr
              have HL := hide hL
              have hkl := hL.kl
              have hks : acc2.size ≤ 2100000000 := by have := hL.sz; omega
              clear hL
              rcases Nat.lt_or_ge k r.ws.length with hk | hk
              · have f1 : decide (k < r.ws.length) = true := decide_eq_true hk
                have f1' : decide ((k : Int) < (r.ws.length : Int)) = true := decide_eq_true (by omega)
                have f2 : ((k : Int) < (r.ws.length : Int)) := by omega
                obtain ⟨u, hu⟩ : ∃ u, r.ws[k]? = some u := ⟨r.ws[k], List.getElem?_eq_getElem hk⟩
                have y0 := HWS.out k (.string u) (by rw [List.getElem?_map, hu]; rfl)
                have hus := HWZ.out u (List.mem_of_getElem? hu)
                have HQU := hide (rquoted_any u wa (by omega))
                have HU := hide hu
                have HKL := hide hk
                clear hk hu
                cases hq : quoteT (T u) with
                | none =>
                  have HE := hide (show prR 0 A = none from prR_bad HP.out HR.out (by
                    have h1 := HL.out.q
                    rw [drop_str HU.out] at h1
                    exact quotes_none h1 hq))
                  rw [show quoteV (T u) = .tuple #[.string ⟨#[]⟩, .bool false] from by unfold quoteV; rw [hq]] at HQU
                  clear hq
                  go_wp2_with fail
                  refine HQU.out.mono ?_
                  rintro e wz ⟨rfl, hwz⟩
                  subst wz
                  go_wp2_with fail
                  (try simp only [Exit.inBlock, Exit.then])
                  go_returns
                  exact ⟨by rw [HE.out]; rfl, rfl⟩
                | some q =>
                  have hql : q.length ≤ 1048580 := by have := quoteT_len hq; rw [T_len] at this; omega
                  have HNS := hide (fun acc3 => WdL.step (acc'' := acc3) HL.out HU.out hq hus)
                  rw [show quoteV (T u) = .tuple #[.string ⟨q.toArray⟩, .bool true] from by unfold quoteV; rw [hq]] at HQU
                  clear hq hus
                  by_cases hk0 : k = 0
                  · have p1 : decide (0 < k) = false := decide_eq_false (by omega)
                    have p1' : decide ((0 : Int) < (k : Int)) = false := decide_eq_false (by omega)
                    have HKK := hide hk0
                    have p2 : (acc2 ++ (⟨#[32]⟩ : ByteArray)).size ≤ 2100000001 := by rw [size_cat, show (⟨#[32]⟩ : ByteArray).size = 1 from rfl]; omega
                    clear hk0
                    go_wp2_with fail
                    refine HQU.out.mono ?_
                    rintro e wz ⟨rfl, hwz⟩
                    subst wz
                    go_wp2_with fail
                    refine ⟨⟨_, k + 1, _, rfl, by go_num, HNS.out _ (by rw [if_pos HKK.out]), by first | rfl | trivial⟩, by have := HKL.out; simp [intOf]; omega⟩
                  · have p1 : decide (0 < k) = true := decide_eq_true (by omega)
                    have p1' : decide ((0 : Int) < (k : Int)) = true := decide_eq_true (by omega)
                    have HKK := hide hk0
                    have p2 : (acc2 ++ (⟨#[32]⟩ : ByteArray)).size ≤ 2100000001 := by rw [size_cat, show (⟨#[32]⟩ : ByteArray).size = 1 from rfl]; omega
                    clear hk0
                    go_wp2_with fail
                    refine HQU.out.mono ?_
                    rintro e wz ⟨rfl, hwz⟩
                    subst wz
                    go_wp2_with fail
                    refine ⟨⟨_, k + 1, _, rfl, by go_num, HNS.out _ (by rw [if_neg HKK.out]), by first | rfl | trivial⟩, by have := HKL.out; simp [intOf]; omega⟩
              · obtain rfl : k = r.ws.length := by omega
                have f1 : decide (r.ws.length < r.ws.length) = false := decide_eq_false (by omega)
                have f1' : decide ((r.ws.length : Int) < (r.ws.length : Int)) = false := decide_eq_false (by omega)
                have HNP := hide (show ∀ acc3, acc3 = acc2 ++ ⟨(tailT r.op).toArray⟩ → PrL A (i + 1) (if r.op = true then r.deep + 1 else r.deep) acc3 from fun acc3 h3 => HP.out.step HR.out HC.out (by rw [HAC.out]; exact HL.out) r3 r1 h3)
                rw [HRO.out] at HNP
                clear hk hkl
                go_wp2_with fail
                refine ⟨⟨_, r.deep + 1, i + 1, rfl, by go_num, by go_num, HNP.out _ rfl, by first | rfl | trivial⟩, by have := HLT.out; simp [intOf]; omega⟩
    · obtain rfl : i = A.length := by omega
      have d1 : decide (A.length < A.length) = false := decide_eq_false (by omega)
      have d1' : decide ((A.length : Int) < (A.length : Int)) = false := decide_eq_false (by omega)
      have d3 : (A.length == A.length) = true := by simp
      have d3' : ((A.length : Int) == (A.length : Int)) = true := by simp
      clear hge
      go_wp2_with fail
      go_loopw [4, 5] (fun s dd wq => ∃ (acc' : ByteArray) (d' : Nat), s = .string acc' ∧ dd = .int .i64 d' ∧ ClL acc d 0 acc' d' ∧ wq = wa) (fun _ dd _ => (intOf dd).toNat)
      case atStart => exact ⟨acc, d, rfl, rfl, ClL.refl (by omega), rfl⟩
      case round =>
        obtain ⟨acc', d', rfl, rfl, hC, hwq⟩ := hrel
        subst wr
        have HC := hide hC
        have hcd := hC.dl
        have hcz := hC.zl
        have hcs : acc'.size ≤ 2013300000 := by have := hC.sz; omega
        clear hC
        rcases Nat.lt_or_ge 0 d' with hm | hm
        · obtain ⟨m, rfl⟩ : ∃ m, d' = m + 1 := ⟨d' - 1, by omega⟩
          have e1 : decide (0 < m + 1) = true := decide_eq_true hm
          have e1' : decide ((0 : Int) < ((m : Int) + 1)) = true := decide_eq_true (by omega)
          have e2 : ((m : Int) + 1 - 1) = (m : Int) := by omega
          have hil : (indT m).length ≤ 200 := by have := indT_len m; omega
          have HNX := hide (HC.out.step (by omega) (by omega))
          have HBK := hide (blanks_any m wa (by omega))
          go_wp2_with fail
          refine HBK.out.mono ?_
          rintro e wy ⟨rfl, hwy⟩
          subst wy
          go_wp2_with fail
          refine ⟨⟨_, m, rfl, by go_num, HNX.out, by first | rfl | trivial⟩, by simp [intOf]⟩
        · obtain rfl : d' = 0 := by omega
          have e1 : decide (0 < 0) = false := decide_eq_false (by omega)
          have e1' : decide ((0 : Int) < (0 : Int)) = false := decide_eq_false (by omega)
          have HE := hide (HP.out.fin HC.out)
          clear hcd hcz hm
          go_wp2_with fail
          (try simp only [Exit.inBlock, Exit.then])
          go_returns
          exact ⟨by rw [HE.out]; rfl, rfl⟩
end Go.Proofs.Ytihmmmodimionaa.Tr
/- What spoil leaves: rows keep their kinds and sizes; who reads a forest's shape alone is not misled. -/
namespace Go.Proofs.Ytihmmmodimionaa.Tr
open Go.RowKit Go.Proofs.Ytihmmmodimionaa Go.Proofs.Ytihmmmodimionaa.Lx

/-- a row of the call's own, as long as N at most -/
def RwO (w : World) (P : Nat → Prop) (t : TypeId) (size N : Nat) (v : Value) : Prop := ∃ n zs, n ≤ N ∧ w.ownsRow 0 t size v n zs ∧ ∀ g, v.ownBlock = some g → P g
/-- a forest's shape -/
def Sh (w : World) (P : Nat → Prop) (N : Nat) : Fo → List Value → Prop
  | .nil, xs => xs = []
  | .cons _ _ _ K R, xs => ∃ vw vp b vk ys xs', xs = vw :: vp :: b :: vk :: xs' ∧ RwO w P 9 1 N vw ∧ RwO w P 24 2 N vp ∧ (w.ownsRow 0 44 4 vk K.len ys ∧ ∀ g, vk.ownBlock = some g → P g) ∧ Sh w P N K ys ∧ Sh w P N R xs'
theorem FoS.sh {w : World} {B : Nat → Prop} {N : Nat} : ∀ {F : Fo} {xs : List Value}, FoS w B F xs → szF F ≤ N → Sh w B N F xs
  | .nil, _, h, _ => h
  | .cons ws ps b0 K R, xs, h, hN => by
    obtain ⟨vw, vp, b, vk, ys, xs', zw, zp, e, h1, h2, h3, h4, h5⟩ := h
    have hz : szF (.cons ws ps b0 K R) = ws.length + ps.length + 1 + szF K + szF R := rfl
    exact ⟨vw, vp, b, vk, ys, xs', e, ⟨_, _, by omega, h1⟩, ⟨_, _, by omega, h2⟩, h3, FoS.sh h4 (by omega), FoS.sh h5 (by omega)⟩
def KT (t : TypeId) (w w' : World) : Prop := ∀ (g : Nat) (cur : Array Value), w.heap[g]? = some (Obj.cells cur t (0, 0)) → ∃ cur', w'.heap[g]? = some (Obj.cells cur' t (0, 0)) ∧ cur'.size = cur.size
theorem KT.refl (t : TypeId) (w : World) : KT t w w := fun _ cur h => ⟨cur, h, rfl⟩
theorem KT.trans {t : TypeId} {w w1 w2 : World} (h : KT t w w1) (k : KT t w1 w2) : KT t w w2 := fun g cur hg => by
  obtain ⟨c1, h1, e1⟩ := h g cur hg
  obtain ⟨c2, h2, e2⟩ := k g c1 h1
  exact ⟨c2, h2, e2.trans e1⟩
theorem RwO.kt {w w' : World} {P : Nat → Prop} {t : TypeId} {size N N' : Nat} {v : Value} (h : RwO w P t size N v) (hN : N ≤ N') (k : KT t w w') : RwO w' P t size N' v := by
  obtain ⟨n, zs, hn, ho, hp⟩ := h
  rcases ho.2 with ⟨h1, h2⟩ | ⟨g, cap, cur, rfl, hb, hg, h1, h2, h3, h4⟩
  · exact ⟨n, zs, Nat.le_trans hn hN, ⟨ho.1, .inl ⟨h1, h2⟩⟩, hp⟩
  · obtain ⟨cur', hg', hs⟩ := k g cur hg
    refine ⟨n, cur'.toList.take (n * size), Nat.le_trans hn hN, ⟨?_, .inr ⟨g, cap, cur', rfl, hb, hg', h1, h2, by rw [hs, h3], rfl⟩⟩, hp⟩
    rw [List.length_take, Array.length_toList, hs, h3, Nat.min_eq_left]
    exact Nat.mul_le_mul_right _ h1
/-- what is left as it was, for who reads shapes -/
structure Tm (P : Nat → Prop) (N : Nat) (w w' : World) : Prop where
  os : w'.os = w.os
  tape : w'.tape = w.tape
  output : w'.output = w.output
  size : w.heap.size ≤ w'.heap.size
  far : ∀ g, g < w.heap.size → ¬ P g → w'.heap[g]? = w.heap[g]?
  str : KT 9 w w'
  pos : KT 24 w w'
  nod : ∀ (g : Nat) (cur : Array Value), w.heap[g]? = some (Obj.cells cur 44 (0, 0)) → ∃ cur', w'.heap[g]? = some (Obj.cells cur' 44 (0, 0)) ∧ cur'.size = cur.size ∧ ∀ j : Nat, cur'[j]? = cur[j]? ∨ (j % 4 = 0 ∧ ∃ u, cur'[j]? = some u ∧ RwO w' P 9 1 N u)
theorem Tm.refl (P : Nat → Prop) (N : Nat) (w : World) : Tm P N w w :=
  ⟨rfl, rfl, rfl, Nat.le_refl _, fun _ _ _ => rfl, KT.refl _ w, KT.refl _ w, fun _ cur h => ⟨cur, h, rfl, fun _ => .inl rfl⟩⟩
theorem Tm.trans {P : Nat → Prop} {N N' : Nat} {w w1 w2 : World} (h : Tm P N w w1) (k : Tm P N' w1 w2) (hN : N ≤ N') : Tm P N' w w2 := by
  refine ⟨k.os.trans h.os, k.tape.trans h.tape, k.output.trans h.output, Nat.le_trans h.size k.size, fun g hg hp => (k.far g (Nat.lt_of_lt_of_le hg h.size) hp).trans (h.far g hg hp), h.str.trans k.str, h.pos.trans k.pos, fun g cur hg => ?_⟩
  obtain ⟨c1, h1, e1, q1⟩ := h.nod g cur hg
  obtain ⟨c2, h2, e2, q2⟩ := k.nod g c1 h1
  refine ⟨c2, h2, e2.trans e1, fun j => ?_⟩
  rcases q2 j with e | e
  · rcases q1 j with e' | ⟨hj, u, hu, ho⟩
    · exact .inl (e.trans e')
    · exact .inr ⟨hj, u, e.trans hu, ho.kt hN k.str⟩
  · exact .inr e
theorem Tm.wide {P : Nat → Prop} {N N' : Nat} {w w1 : World} (h : Tm P N w w1) (hN : N ≤ N') : Tm P N' w w1 := h.trans (Tm.refl P N' w1) hN
/-- the cells of a row of statements, in another world -/
def XS (w' : World) (P : Nat → Prop) (N : Nat) (xs xs' : List Value) : Prop := xs'.length = xs.length ∧ ∀ j : Nat, xs'[j]? = xs[j]? ∨ (j % 4 = 0 ∧ ∃ u, xs'[j]? = some u ∧ RwO w' P 9 1 N u)
theorem XS.refl (w : World) (P : Nat → Prop) (N : Nat) (xs : List Value) : XS w P N xs xs := ⟨rfl, fun _ => .inl rfl⟩
theorem Tm.row {P : Nat → Prop} {N base n : Nat} {w w' : World} {v : Value} {ys : List Value} (k : Tm P N w w') (h : w.ownsRow base 44 4 v n ys) : ∃ ys', w'.ownsRow base 44 4 v n ys' ∧ XS w' P N ys ys' := by
  rcases h.2 with ⟨h1, h2⟩ | ⟨g, cap, cur, rfl, hb, hg, h1, h2, h3, h4⟩
  · exact ⟨ys, ⟨h.1, .inl ⟨h1, h2⟩⟩, XS.refl _ _ _ _⟩
  · obtain ⟨cur', hg', hs, hq⟩ := k.nod g cur hg
    have hl : (cur'.toList.take (n * 4)).length = n * 4 := by
      rw [List.length_take, Array.length_toList, hs, h3, Nat.min_eq_left]
      exact Nat.mul_le_mul_right _ h1
    refine ⟨cur'.toList.take (n * 4), ⟨hl, .inr ⟨g, cap, cur', rfl, hb, hg', h1, h2, by rw [hs, h3], rfl⟩⟩, by rw [hl, h.1], fun j => ?_⟩
    rw [← h4, List.getElem?_take, List.getElem?_take, Array.getElem?_toList, Array.getElem?_toList]
    by_cases hj : j < n * 4
    · rw [if_pos hj, if_pos hj]
      exact hq j
    · rw [if_neg hj, if_neg hj]
      exact .inl rfl
theorem Sh.tame {P : Nat → Prop} {N N' : Nat} {w w' : World} (k : Tm P N' w w') (hN : N ≤ N') : ∀ {F : Fo} {xs xs' : List Value}, Sh w P N F xs → XS w' P N' xs xs' → Sh w' P N' F xs'
  | .nil, xs, xs', h, hx => by
    rw [show xs = [] from h] at hx
    exact List.eq_nil_of_length_eq_zero hx.1
  | .cons _ _ _ K R, xs, xs', h, hx => by
    obtain ⟨vw, vp, b, vk, ys, xs1, rfl, h1, h2, h3, h4, h5⟩ := h
    obtain ⟨hl, hj⟩ := hx
    match xs', hl, hj with
    | a0 :: a1 :: a2 :: a3 :: xs2, hl, hj =>
      obtain ⟨ys', hy, hyx⟩ := k.row h3.1
      have e1 : a1 = vp := by
        rcases hj 1 with e | ⟨e, _⟩
        · simpa using e
        · exact absurd e (by decide)
      have e2 : a2 = b := by
        rcases hj 2 with e | ⟨e, _⟩
        · simpa using e
        · exact absurd e (by decide)
      have e3 : a3 = vk := by
        rcases hj 3 with e | ⟨e, _⟩
        · simpa using e
        · exact absurd e (by decide)
      subst e1 e2 e3
      refine ⟨a0, a1, a2, a3, ys', xs2, rfl, ?_, h2.kt hN k.pos, ⟨hy, h3.2⟩, Sh.tame k hN h4 hyx, Sh.tame k hN h5 ⟨by simp at hl; omega, fun j => ?_⟩⟩
      · rcases hj 0 with e | ⟨_, u, e, hu⟩
        · obtain rfl : a0 = vw := by simpa using e
          exact h1.kt hN k.str
        · obtain rfl : a0 = u := by simpa using e
          exact hu
      · have h6 := hj (j + 4)
        rw [show (j + 4) % 4 = j % 4 by omega] at h6
        simpa using h6
    | [], hl, _ => simp at hl
    | [_], hl, _ => simp at hl
    | [_, _], hl, _ => simp at hl
    | [_, _, _], hl, _ => simp at hl
theorem XS.drop {w : World} {P : Nat → Prop} {N i : Nat} {xs xs' : List Value} (h : XS w P N xs xs') : XS w P N (xs.drop (i * 4)) (xs'.drop (i * 4)) := by
  refine ⟨by rw [List.length_drop, List.length_drop, h.1], fun j => ?_⟩
  rw [List.getElem?_drop, List.getElem?_drop]
  have := h.2 (i * 4 + j)
  rwa [show (i * 4 + j) % 4 = j % 4 by omega] at this
theorem XS.set {w : World} {P : Nat → Prop} {N i : Nat} {xs : List Value} {u : Value} (h : i * 4 < xs.length) (hu : RwO w P 9 1 N u) : XS w P N xs (xs.set (i * 4) u) := by
  refine ⟨List.length_set, fun j => ?_⟩
  rw [List.getElem?_set]
  by_cases hj : i * 4 = j
  · subst hj
    rw [if_pos rfl, if_pos h]
    exact .inr ⟨by omega, u, rfl, hu⟩
  · rw [if_neg hj]
    exact .inl rfl
section
variable {P : Nat → Prop} {N : Nat} {w w' : World}
/-- new blocks, and a block of another kind -/
theorem tm_one {g : Nat} {t : TypeId} {cur cur' : Array Value} (ht : t = 9 ∨ t = 24) (hg : w.heap[g]? = some (Obj.cells cur t (0, 0))) (hp : P g) (hr : w.grownBy w' (some g)) (hg' : w'.heap[g]? = some (Obj.cells cur' t (0, 0))) (hs : cur'.size = cur.size) : Tm P N w w' := by
  have hk : ∀ (q : Nat) (c : Array Value) (u : TypeId), w.heap[q]? = some (Obj.cells c u (0, 0)) → q ≠ g → w'.heap[q]? = some (Obj.cells c u (0, 0)) := fun q c u hq hne => (hr.block q (lt_heap hq) (fun e => hne (by injection e))).trans hq
  have kt : ∀ u, KT u w w' := fun u q c hq => by
    by_cases e : q = g
    · subst e
      rw [hg] at hq
      cases hq
      exact ⟨cur', hg', hs⟩
    · exact ⟨c, hk q c u hq e, rfl⟩
  refine ⟨hr.os, hr.tape, hr.output, hr.size, fun q hq hne => hr.block q hq (fun e => by injection e with e; subst e; exact hne hp), kt _, kt _, fun q c hq => ?_⟩
  by_cases e : q = g
  · subst e
    rw [hg] at hq
    injection hq with hq
    injection hq with _ h2 _
    rcases ht with h | h <;> rw [h] at h2 <;> exact absurd h2 (by decide)
  · exact ⟨c, hk q c _ hq e, rfl, fun _ => .inl rfl⟩
theorem tm_below (h : Below w.heap.size w w') : Tm P N w w' := by
  have hk : ∀ (q : Nat) (o : Obj), w.heap[q]? = some o → w'.heap[q]? = some o := fun q o hq => (h.block q (lt_heap hq)).trans hq
  exact ⟨h.os, h.tape, h.output, h.size, fun q hq _ => h.block q hq, fun q c hq => ⟨c, hk q _ hq, rfl⟩, fun q c hq => ⟨c, hk q _ hq, rfl⟩, fun q c hq => ⟨c, hk q _ hq, rfl, fun _ => .inl rfl⟩⟩
/-- a statement's words are kept anew -/
theorem tm_words {g i : Nat} {cur : Array Value} {u : Value} (hg : w.heap[g]? = some (Obj.cells cur 44 (0, 0))) (hp : P g) (hu : RwO w P 9 1 N u) : Tm P N w (w.setCell ⟨g, i * 4, none⟩ u) := by
  have ho : Only g w (w.setCell ⟨g, i * 4, none⟩ u) := only_set (only_refl g w) (i * 4) u
  have hg' := heap_set (j := i * 4) (u := u) hg
  have hk : ∀ (q : Nat) (c : Array Value) (t : TypeId), w.heap[q]? = some (Obj.cells c t (0, 0)) → q ≠ g → (w.setCell ⟨g, i * 4, none⟩ u).heap[q]? = some (Obj.cells c t (0, 0)) := fun q c t hq hne => (ho.block q (lt_heap hq) (fun e => hne (by injection e))).trans hq
  have kt : ∀ t, t ≠ 44 → KT t w (w.setCell ⟨g, i * 4, none⟩ u) := fun t ht q c hq => by
    by_cases e : q = g
    · subst e
      rw [hg] at hq
      injection hq with hq
      injection hq with _ h2 _
      exact absurd h2.symm ht
    · exact ⟨c, hk q c t hq e, rfl⟩
  refine ⟨ho.os, ho.tape, ho.output, ho.size, fun q hq hne => ho.block q hq (fun e => by injection e with e; subst e; exact hne hp), kt _ (by decide), kt _ (by decide), fun q c hq => ?_⟩
  by_cases e : q = g
  · subst e
    rw [hg] at hq
    cases hq
    refine ⟨_, hg', by simp, fun j => ?_⟩
    by_cases hj : i * 4 = j
    · subst hj
      by_cases hl : i * 4 < cur.size
      · exact .inr ⟨by omega, u, by simp [Array.getElem?_setIfInBounds, hl], hu.kt (Nat.le_refl _) (kt _ (by decide))⟩
      · exact .inl (by simp [Array.getElem?_setIfInBounds, hl])
    · exact .inl (by simp [Array.getElem?_setIfInBounds, hj])
  · exact ⟨c, hk q c _ hq e, rfl, fun _ => .inl rfl⟩
end
/-- append onto a slice of the call's own: its old block keeps its kind and size -/
theorem append_kept {Pg : Program} {w : World} {t ty e : TypeId} {i : TypeInfo} {z : Value} {bytes : Nat} (ht : Pg.underlying t = some (.slice e)) (hi : Pg.info? e = some i) (hz : i.zero = some z) (hs1 : i.size = 1) (hby : i.bytes = bytes)
    {g n cap : Nat} {cur : Array Value} {xs : List Value} (hown : w.ownsRow 0 e 1 (.slice (some ⟨g, 0, none⟩) n cap) n xs) (hg : w.heap[g]? = some (Obj.cells cur e (0, 0))) {ad : Addr} {c : Nat} {u : Value} (hnews : w.cell? ad = some u) (h1 : u.oneCell' = true) (h63 : n + 1 ≤ maxLen) (hbytes : (n + 1) * bytes ≤ 140737488355328)
    {v' : Value} {w' : World} (hr : (Builtin.append_ #[t, t] ty #[.slice (some ⟨g, 0, none⟩) n cap, .slice (some ad) 1 c]).run Pg w = .ok v' w') : ∃ cur', w'.heap[g]? = some (Obj.cells cur' e (0, 0)) ∧ cur'.size = cur.size := by
  rcases hown.2 with ⟨h, _⟩ | ⟨g', cap', cur', hv, _, hg', hnc, hcm, hcs, _⟩
  · cases h
  injection hv with h1' h2' h3'
  injection h1' with h1'
  injection h1' with h1'
  subst h1' h3'
  rw [hg] at hg'
  cases hg'
  have hnw : ∀ (j : Nat) (x : Value), [u][j]? = some x → w.cell? (ad.add j) = some x := by
    intro j x hj
    match j, hj with
    | 0, hj => simp at hj; subst hj; exact hnews
  subst hby
  by_cases hroom : n + 1 ≤ cap
  · have := run_append_room (P := Pg) w t ty e i ht hi g n cap cur hg ad 1 c [u] (by rw [hs1]; rfl) hnw (by simpa using h1) hroom (by rw [hs1, hcs]; simp; omega)
    rw [this] at hr
    injection hr with _ hr
    subst hr
    refine ⟨_, setRow_heap w g cur _ e _ hg, ?_⟩
    simp only [List.size_toArray, List.length_append, List.length_take, List.length_drop, Array.length_toList, List.length_cons, List.length_nil, hs1]
    omega
  · have := run_append_grow (P := Pg) w t ty e i z ht hi hz ⟨g, 0, none⟩ n cap xs (by rw [hs1]; exact hown.1) (hown.cells (g := g) rfl) ad 1 c [u] (by rw [hs1]; rfl) hnw (by omega) (by simp only [maxLen] at h63; omega) (growslice_fits (by omega) hbytes)
    rw [this] at hr
    injection hr with _ hr
    subst hr
    exact ⟨cur, (heap_alloc_old w.drew _ (lt_heap hg)).trans hg, rfl⟩
end Go.Proofs.Ytihmmmodimionaa.Tr
/- spoil, walked: a forest's shape is enough. -/
namespace Go.Proofs.Ytihmmmodimionaa.Tr
open Go.RowKit Go.Proofs.Ytihmmmodimionaa Go.Proofs.Ytihmmmodimionaa.Lx

theorem wpL_tame {Pg : Program} {w : World} {ops : Array Oper} {rest : List Oper} {o : Oper} {a : Act} {Q : Exit → Act → World → Prop} (hgd : o.guard = none) (s x : Operand) (t : TypeId)
    (ho : o.op = .call { callee := .builtin .append, args := #[s, x], argTypes := #[t, t] })
    (e : TypeId) (i : TypeInfo) (z : Value) (bytes : Nat) (ht : Pg.underlying t = some (.slice e)) (hi : Pg.info? e = some i) (hz : i.zero = some z)
    (hs1 : i.size = 1) (hby : i.bytes = bytes) (hzs : z.cells.size = 1)
    (v : Value) (n : Nat) (xs : List Value) (hs : a.eval s = v) (hown : w.ownsRow 0 e 1 v n xs)
    (ad : Addr) (c : Nat) (u : Value) (hx : a.eval x = .slice (some ad) 1 c) (hnews : w.cell? ad = some u) (h1 : u.oneCell' = true)
    (h63 : n + 1 ≤ maxLen) (hbytes : (n + 1) * bytes ≤ 140737488355328)
    (h : ∀ g c' w', w'.ownsRow 0 e 1 (.slice (some ⟨g, 0, none⟩) (n + 1) c') (n + 1) (xs ++ [u]) → w.grownBy w' v.ownBlock → (v.ownBlock = some g ∨ g = w.heap.size) → (∀ (q : Nat) (cur : Array Value), v.ownBlock = some q → w.heap[q]? = some (Obj.cells cur e (0, 0)) → ∃ cur', w'.heap[q]? = some (Obj.cells cur' e (0, 0)) ∧ cur'.size = cur.size) → wpList Pg ops Q rest (a.put o.dst (.slice (some ⟨g, 0, none⟩) (n + 1) c')) w') :
    wpList Pg ops Q (o :: rest) a w := by
  refine wpList_plain hgd fun K hK => ?_
  have hnw : ∀ (j : Nat) (y : Value), [u][j]? = some y → w.cell? (ad.add j) = some y := by
    intro j y hj
    match j, hj with
    | 0, hj => simp at hj; subst hj; exact hnews
  obtain ⟨g, c', w', hr, h2, h3, h4, _⟩ := run_append_lies (P := Pg) w t o.type 0 e i z 1 bytes ht hi hz hs1 hby hzs (by decide) v n xs hown ad 1 c [u] (by simp) hnw (by simpa using h1) (by decide) h63 hbytes (Nat.zero_le _) _ rfl
  have h6 : ∀ (q : Nat) (cur : Array Value), v.ownBlock = some q → w.heap[q]? = some (Obj.cells cur e (0, 0)) → ∃ cur', w'.heap[q]? = some (Obj.cells cur' e (0, 0)) ∧ cur'.size = cur.size := by
    intro q cur hq hg
    rcases hown.2 with ⟨rfl, _⟩ | ⟨g', cap, cur', rfl, _⟩
    · cases hq
    · injection hq with hq
      have hq' : g' = q := hq
      subst hq'
      exact append_kept ht hi hz hs1 hby hown hg hnews h1 h63 hbytes hr
  unfold Oper.wp execOp
  simp only [ho, resolve, invoke, builtin, Sem.run_bind, Sem.run_pure, Result.andThen_ok, List.map_toArray, List.map_cons, List.map_nil, hs, hx, hr]
  exact hK _ _ (h g c' w' h2 h3 h4 h6)
theorem own_kt {w w' : World} {t : TypeId} {base size n : Nat} {v : Value} {zs : List Value} (h : w.ownsRow base t size v n zs) (k : KT t w w') : ∃ zs', w'.ownsRow base t size v n zs' := by
  rcases h.2 with ⟨h1, h2⟩ | ⟨g, cap, cur, rfl, hb, hg, h1, h2, h3, h4⟩
  · exact ⟨zs, h.1, .inl ⟨h1, h2⟩⟩
  · obtain ⟨cur', hg', hs⟩ := k g cur hg
    refine ⟨cur'.toList.take (n * size), ?_, .inr ⟨g, cap, cur', rfl, hb, hg', h1, h2, by rw [hs, h3], rfl⟩⟩
    rw [List.length_take, Array.length_toList, hs, h3, Nat.min_eq_left]
    exact Nat.mul_le_mul_right _ h1
section
variable {P : Nat → Prop} {N : Nat} {w w' : World}
theorem own_obj {base size n c g : Nat} {t : TypeId} {zs : List Value} (h : w.ownsRow base t size (.slice (some ⟨g, 0, none⟩) n c) n zs) : ∃ cur, w.heap[g]? = some (Obj.cells cur t (0, 0)) := by
  rcases h.2 with ⟨h1, _⟩ | ⟨g', cap, cur, h1, _, hg, _⟩
  · cases h1
  · injection h1 with h1
    injection h1 with h1
    injection h1 with h1
    subst h1
    exact ⟨cur, hg⟩
theorem tm_set {t : TypeId} {size n c g j : Nat} {u : Value} {zs : List Value} (ht : t = 9 ∨ t = 24) (h : w.ownsRow 0 t size (.slice (some ⟨g, 0, none⟩) n c) n zs) (hp : P g) : Tm P N w (w.setCell ⟨g, j, none⟩ u) := by
  obtain ⟨cur, hg⟩ := own_obj h
  exact tm_one ht hg hp (only_set (only_refl g w) j u) (heap_set hg) (by simp)
theorem tm_grow {n : Nat} {v : Value} {zs : List Value} (h : w.ownsRow 0 9 1 v n zs) (hp : ∀ g, v.ownBlock = some g → P g) (hg : w.grownBy w' v.ownBlock) (hk : ∀ (q : Nat) (cur : Array Value), v.ownBlock = some q → w.heap[q]? = some (Obj.cells cur 9 (0, 0)) → ∃ cur', w'.heap[q]? = some (Obj.cells cur' 9 (0, 0)) ∧ cur'.size = cur.size) : Tm P N w w' := by
  rcases h.2 with ⟨rfl, _⟩ | ⟨g, cap, cur, rfl, _, hgg, _⟩
  · exact tm_below ⟨hg.os, hg.tape, hg.output, hg.size, fun i hi => hg.block i hi (fun e => by cases e)⟩
  · obtain ⟨cur', h1, h2⟩ := hk g cur rfl hgg
    exact tm_one (.inl rfl) hgg (hp g rfl) hg h1 h2
end
theorem len_nodes : ∀ F : Fo, F.len ≤ F.nodes
  | .nil => Nat.le_refl _
  | .cons _ _ _ K R => by
    have := len_nodes R
    show R.len + 1 ≤ K.nodes + R.nodes + 1
    omega
def SpoilOut (P : Nat → Prop) (N : Nat) (F : Fo) (w : World) (e : Ending) (w' : World) : Prop := e = .returned (.int .i64 F.nodes) ∧ Tm P (N + F.nodes) w w'
structure SL (w wr : World) (P : Nat → Prop) (N : Nat) (v : Value) (F : Fo) (i : Nat) (Fd R : Fo) (zs : List Value) : Prop where
  tm : Tm P (N + Fd.nodes) w wr
  own : wr.ownsRow 0 44 4 v F.len zs
  sh : Sh wr P (N + Fd.nodes) R (zs.drop (i * 4))
  len : i + R.len = F.len
  no : Fd.nodes + R.nodes = F.nodes
/-- in the loops over a statement's words, and its places -/
structure SW (wr wx : World) (P : Nat → Prop) (N : Nat) (v : Value) (n : Nat) (zs : List Value) : Prop where
  tm : Tm P N wr wx
  own : wx.ownsRow 0 44 4 v n zs
set_option maxHeartbeats 8000000 in
set_option maxRecDepth 100000 in
theorem spoil_any (P : Nat → Prop) : ∀ (m : Nat) (F : Fo), F.nodes = m → ∀ (N : Nat) (A : Option Addr) (c : Nat) (xs : List Value) (w : World), w.ownsRow 0 44 4 (.slice A F.len c) F.len xs → (∀ g, (Value.slice A F.len c).ownBlock = some g → P g) → (∀ g, w.heap.size ≤ g → P g) → Sh w P N F xs → N + F.nodes ≤ 1099511627776 →
    Calls Try.prog 19 #[.slice A F.len c] w (SpoilOut P N F w) := by
  intro m
  induction m using Nat.strongRecOn with
  | _ m ih =>
    intro F hF N A c xs w ho hA hP hs hN
    obtain ⟨si, sz0, sz, ss, sb⟩ := info_parts infoS
    have HIH := hide ih
    have HS0 := hide (show SL w w P N (.slice A F.len c) F 0 .nil F xs from ⟨Tm.refl _ _ _, ho, hs, by simp, by simp [Fo.nodes]⟩)
    have HA := hide hA
    have HP := hide hP
    have HM := hide hF
    have hfl := len_nodes F
    clear ho hA hP hs ih hF
    go_enter Try.func19, Try.ntmps19
    go_wp2_with fail
    go_loopw [3, 4] (fun q j wr => ∃ (i : Nat) (Fd R : Fo) (zs : List Value), j = .int .i64 i ∧ q = .int .i64 Fd.nodes ∧ SL w wr P N (.slice A F.len c) F i Fd R zs) (fun _ j _ => F.len - (intOf j).toNat)
    case atStart => exact ⟨0, .nil, F, xs, rfl, rfl, HS0.out⟩
    case round =>
      clear HS0
      obtain ⟨i, Fd, R, zs, rfl, rfl, hX⟩ := hrel
      obtain ⟨wa, rfl⟩ : ∃ x, x = wr := ⟨wr, rfl⟩
      have HX := hide hX
      have hXl := hX.len
      have hXn := hX.no
      cases R with
      | nil =>
        have hge : F.len = i := by simp only [Fo.len] at hXl; omega
        have d1 : decide (i < F.len) = false := decide_eq_false (by omega)
        have d1' : decide ((i : Int) < (F.len : Int)) = false := decide_eq_false (by omega)
        have HN := hide (show Fd.nodes = F.nodes from by simp only [Fo.nodes] at hXn; omega)
        clear hX hXl hXn hge
        go_wp2_with fail
        go_ret
        have := HX.out.tm
        rw [HN.out] at this ⊢
        exact ⟨rfl, this⟩
      | cons ws ps blk K R =>
        obtain ⟨vw, vp, b, vk, ys, xs1, hxs, h1, h2, h3, h4, h5⟩ := hX.sh
        obtain ⟨nw, zw, hnw, how, hpw⟩ := h1
        obtain ⟨np, zp, hnp, hop, hpp⟩ := h2
        have hlt : i < F.len := by simp only [Fo.len] at hXl; omega
        obtain ⟨g, c', hgc, -, -⟩ := own_some hX.own (by omega)
        injection hgc with q1 q2 q3
        subst q1 q3
        obtain ⟨Aw, cw, rfl⟩ := own_slice how
        obtain ⟨Ap, cp, rfl⟩ := own_slice hop
        obtain ⟨Ak, ck, rfl⟩ := own_slice h3.1
        have HOW := hide how
        have HOP := hide hop
        have HPW := hide hpw
        have HPP := hide hpp
        have HXS := hide hxs
        have HNW := hide hnw
        have HLN := hide (show i + (R.len + 1) = F.len from hXl)
        have HNO := hide (show Fd.nodes + (K.nodes + R.nodes + 1) = F.nodes from hXn)
        have HZ : Hid (∀ j u, (Value.slice Aw nw cw :: .slice Ap np cp :: b :: .slice Ak K.len ck :: xs1)[j]? = some u → zs[i * 4 + j]? = some u) := hide (fun j u hj => by rw [← hxs, List.getElem?_drop] at hj; exact hj)
        have d1 : decide (i < F.len) = true := decide_eq_true hlt
        have d1' : decide ((i : Int) < (F.len : Int)) = true := decide_eq_true (by omega)
        have d2 : ((i : Int) < (F.len : Int)) := by omega
        have hnwb : nw ≤ 1099511627776 := by omega
        have hnpb : np ≤ 1099511627776 := by omega
        have HNB := hide (show Fd.nodes + (K.nodes + 1) ≤ 1099511627776 from by have h : Fd.nodes + (K.nodes + R.nodes + 1) = F.nodes := hXn; omega)
        clear hX hXl hXn how hop hpw hpp hxs hnw h3 h4 h5 q2
        go_wp2_with fail
        go_loopw [5] (fun j wx => ∃ (k : Nat) (zw' : List Value), j = .int .i64 k ∧ k ≤ nw ∧ SW wa wx P (N + Fd.nodes) (.slice (some ⟨g, 0, none⟩) F.len c) F.len zs ∧ wx.ownsRow 0 9 1 (.slice Aw nw cw) nw zw') (fun j _ => nw - (intOf j).toNat)
        case atStart => exact ⟨0, _, rfl, Nat.zero_le _, ⟨Tm.refl _ _ _, HX.out.own⟩, HOW.out⟩
        case round =>
          obtain ⟨k, zw', rfl, hk, hSW, hown⟩ := hrel
          have c0 := own_cells hSW.own (i * 4) (.slice Aw nw cw) (by have := HZ.out 0 _ rfl; simpa using this)
          rw [show (⟨g, 0, none⟩ : Addr).add (i * 4) = ⟨g, i * 4, none⟩ by simp [Addr.add, eq_comm]] at c0
          have HSW := hide hSW
          rcases Nat.lt_or_ge k nw with hkl | hkg
          · obtain ⟨gw, cw', hgw, -, -⟩ := own_some hown (by omega)
            injection hgw with q1 q2 q3
            subst q1 q3
            have hst := hown.stored k (.string ⟨#[115, 112, 111, 105, 108, 116]⟩)
            obtain ⟨cur, hcur⟩ := own_obj hown
            have f0 := frozen_heap (j := k) hcur
            obtain ⟨u, hu⟩ : ∃ u, zw'[k]? = some u := ⟨zw'[k]'(by rw [hown.1]; omega), List.getElem?_eq_getElem _⟩
            have cu := own_cells hown k u hu
            rw [show (⟨gw, 0, none⟩ : Addr).add k = ⟨gw, k, none⟩ by simp [Addr.add, eq_comm]] at cu
            have z1 : decide (k < nw) = true := decide_eq_true hkl
            have z1' : decide ((k : Int) < (nw : Int)) = true := decide_eq_true (by omega)
            have z2 : ((k : Int) < (nw : Int)) := by omega
            have HST := hide hst
            have HTM := hide (tm_set (P := P) (N := N + Fd.nodes) (j := k) (u := .string ⟨#[115, 112, 111, 105, 108, 116]⟩) (.inl rfl) hown (HPW.out gw rfl))
            have HNE := hide (own_types hSW.own hown (by decide))
            have HKL := hide hkl
            clear hk hSW hown hst hcur hu q2 hkl
            go_wp2_with fail
            go_roundw
            case rel => exact ⟨k + 1, _, by go_num, HKL.out, ⟨HSW.out.tm.trans HTM.out (Nat.le_refl _), own_kept HSW.out.own HST.out.2 (fun q e e' => HNE.out q e' e)⟩, HST.out.1⟩
            case measure => have := HKL.out; simp [intOf]; omega
          · have z1 : decide (k < nw) = false := decide_eq_false (by omega)
            have z1' : decide ((k : Int) < (nw : Int)) = false := decide_eq_false (by omega)
            clear hk hkg hown hSW
            go_wp2_with fail
            clear z1 z1' c0
            go_loopw [6] (fun j wy => ∃ (k : Nat) (zp' : List Value), j = .int .i64 k ∧ k ≤ np ∧ SW wa wy P (N + Fd.nodes) (.slice (some ⟨g, 0, none⟩) F.len c) F.len zs ∧ wy.ownsRow 0 24 2 (.slice Ap np cp) np zp') (fun j _ => np - (intOf j).toNat)
            case atStart =>
              obtain ⟨zp', hzp'⟩ := own_kt HOP.out HSW.out.tm.pos
              exact ⟨0, _, rfl, Nat.zero_le _, HSW.out, hzp'⟩
            case round =>
              clear HSW
              obtain ⟨k, zp', rfl, hk, hSW, hown⟩ := hrel
              have c1 := own_cells hSW.own (i * 4 + 1) (.slice Ap np cp) (HZ.out 1 _ rfl)
              rw [show (⟨g, 0, none⟩ : Addr).add (i * 4 + 1) = ⟨g, i * 4 + 1, none⟩ by simp [Addr.add, eq_comm]] at c1
              have HSW := hide hSW
              rcases Nat.lt_or_ge k np with hkl | hkg
              · obtain ⟨gp, cp', hgp, -, -⟩ := own_some hown (by omega)
                injection hgp with q1 q2 q3
                subst q1 q3
                have hst := hown.stored (k * 2) (.int .i64 (-1))
                obtain ⟨cur, hcur⟩ := own_obj hown
                have f0 := frozen_heap (j := k * 2) hcur
                obtain ⟨u, hu⟩ : ∃ u, zp'[k * 2]? = some u := ⟨zp'[k * 2]'(by rw [hown.1]; omega), List.getElem?_eq_getElem _⟩
                have cu := own_cells hown (k * 2) u hu
                rw [show (⟨gp, 0, none⟩ : Addr).add (k * 2) = ⟨gp, k * 2, none⟩ by simp [Addr.add, eq_comm]] at cu
                have z1 : decide (k < np) = true := decide_eq_true hkl
                have z1' : decide ((k : Int) < (np : Int)) = true := decide_eq_true (by omega)
                have z2 : ((k : Int) < (np : Int)) := by omega
                have HST := hide hst
                have HTM := hide (tm_set (P := P) (N := N + Fd.nodes) (j := k * 2) (u := .int .i64 (-1)) (.inr rfl) hown (HPP.out gp rfl))
                have HNE := hide (own_types hSW.own hown (by decide))
                have HKL := hide hkl
                clear hk hSW hown hst hcur hu q2 hkl
                go_wp2_with fail
                go_roundw
                case rel => exact ⟨k + 1, _, by go_num, HKL.out, ⟨HSW.out.tm.trans HTM.out (Nat.le_refl _), own_kept HSW.out.own HST.out.2 (fun q e e' => HNE.out q e' e)⟩, HST.out.1⟩
                case measure => have := HKL.out; simp [intOf]; omega
              · have z1 : decide (k < np) = false := decide_eq_false (by omega)
                have z1' : decide ((k : Int) < (np : Int)) = false := decide_eq_false (by omega)
                have c0 := own_cells hSW.own (i * 4) (.slice Aw nw cw) (by have := HZ.out 0 _ rfl; simpa using this)
                rw [show (⟨g, 0, none⟩ : Addr).add (i * 4) = ⟨g, i * 4, none⟩ by simp [Addr.add, eq_comm]] at c0
                obtain ⟨zw2, hzw2⟩ := own_kt HOW.out hSW.tm.str
                have HW2 := hide hzw2
                have c0' := fun o => cellB (bel_one wr o) c0
                clear hk hown hSW hzw2
                go_wp2_with (at_builtin; go_must (refine wpL_tame rfl (.tmp 54) (.tmp 55) 41 rfl 9 si _ 16 Try.underlying41 sz0 sz ss sb rfl (.slice Aw nw cw) nw zw2 rfl (HW2.out.alloc _) ⟨wr.heap.size, 0, none⟩ 1 (.string ⟨#[98, 101, 104, 105, 110, 100]⟩) rfl (cell_heap (j := 0) (heap_new wr _) rfl) rfl ?c63 ?cby ?_))
                case c63 => unfold maxLen; omega
                case cby => omega
                intro gv cv' y hown hgr hk6 hkept
                have hal : Tm P (N + Fd.nodes) wr (wr.alloc (Obj.cells #[.string ⟨#[98, 101, 104, 105, 110, 100]⟩] 9)) := tm_below (bel_one wr _)
                have how1 := HW2.out.alloc (Obj.cells #[.string ⟨#[98, 101, 104, 105, 110, 100]⟩] 9)
                have hno1 := HSW.out.own.alloc (Obj.cells #[.string ⟨#[98, 101, 104, 105, 110, 100]⟩] 9)
                have t3 := tm_grow (P := P) (N := N + Fd.nodes) how1 HPW.out hgr hkept
                have hn1 := own_kept hno1 hgr (fun q e e' => own_types hno1 how1 (by decide) q e' e)
                obtain ⟨cur, hcur⟩ := own_obj hn1
                have hrw : RwO y P 9 1 (N + Fd.nodes + 1) (.slice (some ⟨gv, 0, none⟩) (nw + 1) cv') := ⟨nw + 1, _, by have := HNW.out; omega, hown, fun q e => by
                  injection e with e
                  have e' : gv = q := e
                  subst e'
                  rcases hk6 with h | h
                  · exact HPW.out _ h
                  · refine HP.out _ ?_
                    rw [h]
                    exact Nat.le_trans (Nat.le_trans HX.out.tm.size HSW.out.tm.size) (Nat.le_succ _)⟩
                have t4 := tm_words (i := i) hcur (HA.out g rfl) hrw
                have TT := ((HSW.out.tm.trans hal (Nat.le_refl _)).trans t3 (Nat.le_refl _)).trans t4 (Nat.le_succ _)
                have hst := hn1.stored (i * 4) (.slice (some ⟨gv, 0, none⟩) (nw + 1) cv')
                have hsh := Sh.tame TT (Nat.le_succ _) HX.out.sh (XS.set (i := i) (by rw [HX.out.own.1]; omega) (hrw.kt (Nat.le_refl _) t4.str)).drop
                obtain ⟨vw2, vp2, b2, vk2, ys2, xs2, he2, -, -, hk2, hsK, hsR⟩ := hsh
                have hz3 : (zs.set (i * 4) (.slice (some ⟨gv, 0, none⟩) (nw + 1) cv'))[i * 4 + 3]? = some (.slice Ak K.len ck) := by
                  rw [List.getElem?_set_ne (by omega)]
                  exact HZ.out 3 _ rfl
                have hvk : vk2 = .slice Ak K.len ck := by
                  have h3 := congrArg (fun l => l[3]?) he2
                  simp only [List.getElem?_drop, hz3] at h3
                  simpa using h3.symm
                subst hvk
                have hx2 : (zs.set (i * 4) (.slice (some ⟨gv, 0, none⟩) (nw + 1) cv')).drop ((i + 1) * 4) = xs2 := by
                  rw [show (i + 1) * 4 = i * 4 + 4 by omega, ← List.drop_drop, he2]
                  rfl
                have y0 := own_cells hn1 (i * 4) (.slice Aw nw cw) (by have := HZ.out 0 _ rfl; simpa using this)
                rw [show (⟨g, 0, none⟩ : Addr).add (i * 4) = ⟨g, i * 4, none⟩ by simp [Addr.add, eq_comm]] at y0
                have f0 := frozen_heap (j := i * 4) hcur
                have c3 := own_cells hst.1 (i * 4 + 3) _ hz3
                rw [show (⟨g, 0, none⟩ : Addr).add (i * 4 + 3) = ⟨g, i * 4 + 3, none⟩ by simp [Addr.add, eq_comm]] at c3
                have HREC := hide (HIH.out K.nodes (by have h1 := HNO.out; have h2 := HM.out; omega) K rfl (N + Fd.nodes + 1) Ak ck ys2 _ hk2.1 hk2.2 (fun q hq => HP.out q (Nat.le_trans (Nat.le_trans HX.out.tm.size TT.size) hq)) hsK (by have h1 := HNO.out; omega))
                have HTT := hide TT
                have HST := hide hst.1
                have HSR := hide hsR
                have HX2 := hide hx2
                have hnb := HNB.out
                clear hal how1 hno1 t3 hn1 hcur hrw t4 TT hst he2 hk2 hsK hsR hz3 hx2 hown hgr hk6 hkept HSW HW2 c0' c0
                go_wp2_with fail
                clear y0 f0
                refine HREC.out.mono ?_
                rintro e w5 ⟨rfl, htm5⟩
                obtain ⟨zs5, hz5, hx5⟩ := htm5.row HST.out
                have hxd := hx5.drop (i := i + 1)
                rw [HX2.out] at hxd
                have hsR5 := Sh.tame htm5 (by omega) HSR.out hxd
                have HSL := hide (show SL w w5 P N (.slice (some ⟨g, 0, none⟩) F.len c) F (i + 1) (Fd.app (.cons ws ps blk K .nil)) R zs5 from by
                  have hna : (Fd.app (.cons ws ps blk K .nil)).nodes = Fd.nodes + (K.nodes + 1) := by rw [nodes_app]; rfl
                  refine ⟨?_, hz5, ?_, by have := HLN.out; omega, by rw [hna]; have := HNO.out; omega⟩
                  · rw [hna, show N + (Fd.nodes + (K.nodes + 1)) = N + Fd.nodes + 1 + K.nodes by omega]
                    exact (HX.out.tm.trans HTT.out (Nat.le_succ _)).trans htm5 (by omega)
                  · rw [hna, show N + (Fd.nodes + (K.nodes + 1)) = N + Fd.nodes + 1 + K.nodes by omega]
                    exact hsR5)
                clear htm5 hz5 hx5 hxd hsR5 HREC HTT HST HSR HX2 c3
                go_wp2_with fail
                go_roundw
                case rel => exact ⟨i + 1, Fd.app (.cons ws ps blk K .nil), R, zs5, by go_num, congrArg (Value.int .i64) (by rw [nodes_app]; simp only [Fo.nodes]; omega), HSL.out⟩
                case measure => have := HLN.out; simp [intOf]; omega
theorem Tm.below {P : Nat → Prop} {N B : Nat} {w w' : World} (h : Tm P N w w') (hB : ∀ g, P g → B ≤ g) (hs : B ≤ w.heap.size) : Below B w w' :=
  ⟨h.os, h.tape, h.output, h.size, fun i hi => h.far i (Nat.lt_of_lt_of_le hi hs) (fun hp => by have := hB i hp; omega)⟩
/-- what was read stays, while what was read besides is written over -/
theorem Tm.fov {P : Nat → Prop} {N : Nat} {w w' : World} {B : Nat → Prop} {F : Fo} {xs : List Value} (h : Tm P N w w') (hf : FoV w B F xs) (hB : ∀ g, B g → g < w.heap.size ∧ ¬ P g) : FoV w' B F xs := hf.keep (fun b hb => h.far b (hB b hb).1 (hB b hb).2)
theorem Tm.rwv {P : Nat → Prop} {N : Nat} {w w' : World} {B : Nat → Prop} {rs : List RowD} {xs : List Value} (h : Tm P N w w') (hf : RwV w B rs xs) (hB : ∀ g, B g → g < w.heap.size ∧ ¬ P g) : RwV w' B rs xs := hf.keep (fun b hb => h.far b (hB b hb).1 (hB b hb).2)
theorem Tm.own {P : Nat → Prop} {N base size n : Nat} {t : TypeId} {w w' : World} {v : Value} {xs : List Value} (h : Tm P N w w') (ho : w.ownsRow base t size v n xs) (hB : ∀ g, v.ownBlock = some g → ¬ P g) : w'.ownsRow base t size v n xs := own_heap ho (fun g e => h.far g (ho.lt g e).2 (hB g e))
end Go.Proofs.Ytihmmmodimionaa.Tr
