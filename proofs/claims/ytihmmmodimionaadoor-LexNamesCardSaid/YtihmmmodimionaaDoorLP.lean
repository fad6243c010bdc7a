import Derived.Test.YtihmmmodimionaaDoorPL
import Derived.Test.YtihmmmodimionaaDoorA
namespace Go.Proofs.YtihmmmodimionaaDoor.Lx
open Go.RowKit

def RowOut (s : List UInt8) (n : Int) (w : World) (e : Ending) (w' : World) : Prop := ∃ r : ByteArray, e = .returned (.string r) ∧ T r = rowAt s n ∧ r.size ≤ 65536 ∧ w = w'
theorem row_any (s : ByteArray) (n : Int) (w : World) (hn : 1 ≤ n) (hn2 : n ≤ 1000000) (hs : s.size ≤ 65536) :
    Calls Tryd.prog 27 #[.string s, .int .i64 n] w (RowOut (T s) n w) := by
  have HN := hide hn2
  clear hn2
  go_enter Tryd.func27, Tryd.ntmps27
  go_wp2
  go_loop [1, 5, 6] (fun x f j => ∃ (nn : Int) (fr k : Nat), x = .int .i64 nn ∧ f = .int .i64 fr ∧ j = .int .i64 k ∧ 1 ≤ nn ∧ nn ≤ 1000000 ∧ fr ≤ k ∧ k ≤ s.size ∧ (rowsOf (T s) [])[(n - 1).toNat]? = (rowsOf ((T s).drop k) (((T s).take k).drop fr))[(nn - 1).toNat]?) (fun _ _ j => s.size - (intOf j).toNat)
  case atStart => exact ⟨n, 0, 0, rfl, rfl, rfl, hn, HN.out, Nat.le_refl _, Nat.zero_le _, by simp⟩
  case round =>
    obtain ⟨nn, fr, k, rfl, rfl, rfl, h1, h2, h3, h4, hf⟩ := hrel
    by_cases hlt : k < s.size
    · rw [T_drop s k hlt, rowsOf] at hf
      by_cases hx : s[k] = 10
      · have hx1 : ((s[k].toNat : Int) == 10) = true := beq_it (by have := (eq10 _).1 hx; omega)
        rw [if_pos hx] at hf
        by_cases h5 : nn = 1
        · have h5' : (nn == 1) = true := beq_it h5
          have HF := hide hf
          have H5 := hide h5
          clear hf hx h5
          go_wp2
          go_ret
          refine ⟨_, rfl, ?_, by rw [ByteArray.size_extract]; omega, rfl⟩
          unfold rowAt
          rw [HF.out, H5.out, T_extract]
          rfl
        · have h5' : (nn == 1) = false := beq_if h5
          have HF := hide hf
          clear hf hx h5
          have h6 : 2 ≤ nn := by
            have : ¬ nn = 1 := by simpa using h5'
            omega
          go_wp2
          go_round
          case rel =>
            refine ⟨nn - 1, k + 1, k + 1, rfl, by go_num, by go_num, by omega, by omega, Nat.le_refl _, hlt, ?_⟩
            rw [HF.out, show (nn - 1).toNat = (nn - 1 - 1).toNat + 1 by omega, List.getElem?_cons_succ, List.drop_eq_nil_of_le (show ((T s).take (k + 1)).length ≤ k + 1 by rw [List.length_take]; omega)]
          case measure => simp [intOf]; omega
      · have hx1 : ((s[k].toNat : Int) == 10) = false := beq_if (by intro e; exact hx ((eq10 _).2 (by omega)))
        rw [if_neg hx] at hf
        have HF := hide hf
        clear hf hx
        go_wp2
        go_round
        case rel =>
          refine ⟨nn, fr, k + 1, rfl, rfl, by go_num, h1, h2, by omega, hlt, ?_⟩
          rw [HF.out, T_take s k hlt, List.drop_append_of_le_length (by rw [List.length_take, T_len]; omega)]
        case measure => simp [intOf]; omega
    · rw [List.drop_eq_nil_of_le (show (T s).length ≤ k by rw [T_len]; omega), List.take_of_length_le (by rw [T_len]; omega)] at hf
      by_cases h5 : nn = 1
      · have h5' : (nn == 1) = true := beq_it h5
        have HF := hide hf
        have H5 := hide h5
        clear hf h5
        go_wp2
        go_ret
        refine ⟨_, rfl, ?_, by rw [ByteArray.size_extract]; omega, rfl⟩
        unfold rowAt
        rw [HF.out, H5.out, T_tail]
        rfl
      · have h5' : (nn == 1) = false := beq_if h5
        have HF := hide hf
        clear hf h5
        go_wp2
        go_ret
        refine ⟨_, rfl, ?_, by decide, rfl⟩
        unfold rowAt
        have h6 : ¬ nn = 1 := by simpa using h5'
        rw [HF.out, rowsOf, show (nn - 1).toNat = (nn - 2).toNat + 1 by omega]
        rfl

theorem toList_T (b : ByteArray) : b.toList = T b := ByteArray.toList_eq b
theorem stands_bits (r word : ByteArray) (c : Int) (hc : 1 ≤ c) (h : c - 1 + word.size ≤ r.size) : ((r.extract (c.toNat - 1) (c - 1 + (word.size : Int)).toNat).toList == word.toList) = standsIn (T r) (T word) c := by
  unfold standsIn
  rw [T_len, T_len, decide_eq_true hc, decide_eq_true h, Bool.true_and, Bool.true_and, toList_T, toList_T, T_extract, List.drop_take, show c.toNat - 1 = (c - 1).toNat by omega, show (c - 1 + (word.size : Int)).toNat - (c - 1).toNat = word.size by omega]

theorem stands_any (s word : ByteArray) (l c : Int) (w : World) (hl : 1 ≤ l) (hl2 : l ≤ 1000000) (hc : 1 ≤ c) (hc2 : c ≤ 1000000) (hs : s.size ≤ 65536) (hw : word.size ≤ 65536) :
    Calls Tryd.prog 13 #[.string s, .string word, .agg #[.int .i64 l, .int .i64 c]] w fun e w' => e = .returned (.bool (standsB (T s) (T word) l c)) ∧ Below w.heap.size w w' := by
  have HR := hide (fun W => row_any s l W hl hl2 hs)
  go_enter Tryd.func13, Tryd.ntmps13
  go_wp2_with fail
  refine (HR.out _).mono ?_; rintro e w1 ⟨r, rfl, hr, hrl, rfl⟩
  have HX : Hid (standsB (T s) (T word) l c = standsIn (T r) (T word) c) := by show _ = _; unfold standsB; rw [hr]
  clear hr HR
  by_cases h : c - 1 + word.size ≤ r.size
  · have hc3 : 0 ≤ c - 1 := by omega
    have hc4 : c - 1 ≤ c - 1 + word.size := by omega
    set_option maxRecDepth 100000 in
    go_wp2_with fail
    go_ret
    refine ⟨?_, bel_one _ _⟩
    rw [HX.out]
    exact ret_bool (stands_bits r word c hc h)
  · have h1 : decide (c - 1 + (word.size : Int) ≤ (r.size : Int)) = false := by simpa using h
    go_wp2_with fail
    refine bodyPost_ret (v := .bool false) (by simp [results, Tryd.results13, go_sem]) rfl ⟨?_, bel_one _ _⟩
    rw [HX.out]
    unfold standsIn
    rw [T_len, T_len, h1, Bool.false_and, Bool.and_false]
end Go.Proofs.YtihmmmodimionaaDoor.Lx
