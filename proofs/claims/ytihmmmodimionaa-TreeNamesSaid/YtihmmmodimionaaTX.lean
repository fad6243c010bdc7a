/- quoted: a word as it is written. -/
import Derived.Test.YtihmmmodimionaaTW
import Derived.Test.YtihmmmodimionaaShelf
import Derived.Lib.ConvBytes
import Derived.Deep.LoopGhost
namespace Go.Proofs.Ytihmmmodimionaa.Tr
open Go.RowKit Go.Proofs.Ytihmmmodimionaa Go.Proofs.Ytihmmmodimionaa.Lx

def quoteV (w : List UInt8) : Value := match quoteT w with
  | some q => .tuple #[.string ⟨q.toArray⟩, .bool true]
  | none => .tuple #[.string ⟨#[]⟩, .bool false]
theorem bytes_below (w : World) (e : TypeId) (s : ByteArray) : Below w.heap.size w (Lib.bytesWorld w e s) :=
  ⟨rfl, rfl, rfl, by rw [Lib.bytesWorld_size]; omega, fun k hk => Lib.bytesWorld_at_old w e s k hk⟩
theorem any_get {w : List UInt8} {p : UInt8 → Bool} {k : Nat} (hk : k < w.length) (h : p w[k] = true) : w.any p = true :=
  List.any_eq_true.2 ⟨w[k], List.getElem_mem hk, h⟩
theorem quote_bytes (s : ByteArray) (q : List UInt8) (h : q = [34] ++ T s ++ [34]) : ((⟨#[34]⟩ : ByteArray) ++ s) ++ (⟨#[34]⟩ : ByteArray) = ⟨q.toArray⟩ := by
  subst h
  apply ByteArray.ext
  simp [ByteArray.data_append, T]
set_option maxHeartbeats 2000000 in
theorem quoted_any (s : ByteArray) (w : World) (hs : s.size < 4294967281) (m : Int) (hm : w.cell? ⟨0, 0, none⟩ = some (.int .i64 m)) :
    Calls Try.prog 64 #[.string s] w fun e w' => e = .returned (quoteV (T s)) ∧ Below w.heap.size w w' := by
  have hcv := fun w s => Lib.run_convert_string_bytes (P := Try.prog) w 9 82 5 s Try.underlying9 Try.underlying82 Try.underlying5
  have HB0 := hide (bytes_below w 5 s)
  have HC := hide (fun j hj => Lib.bytesWorld_cell w 5 s j hj)
  have HM := hide hm
  clear hm
  go_enter Try.func64, Try.ntmps64
  go_wp2_with fail
  go_loopw [9] (fun j wr => ∃ k : Nat, j = .int .i64 k ∧ k ≤ s.size ∧ wr = Lib.bytesWorld w 5 s ∧ ∀ i : Nat, i < k → badB (s.data.toList.getD i 0) = false) (fun j _ => s.size - (intOf j).toNat)
  case atStart => exact ⟨0, rfl, Nat.zero_le _, rfl, fun i hi => absurd hi (Nat.not_lt_zero i)⟩
  case round =>
    obtain ⟨k, rfl, hk, rfl, hbs⟩ := hrel
    have HBS := hide hbs
    clear hbs
    have hln : (T s).length = s.size := T_len s
    rcases Nat.lt_or_ge k s.size with hlt | hge
    · have hc := HC.out k hlt
      have hq : badB (s.data.toList.getD k 0) = true → quoteV (T s) = .tuple #[.string ⟨#[]⟩, .bool false] := fun hb => by
        have : (T s).any badB = true := any_get (k := k) (by omega) (by
          rw [← hb]
          congr 1
          rw [List.getD_eq_getElem?_getD, show s.data.toList = T s from rfl, List.getElem?_eq_getElem (by omega)]
          rfl)
        unfold quoteV quoteT
        rw [if_pos this]
      have HQ := hide hq
      have HLT := hide hlt
      clear hq hln
      have hbd : badB (s.data.toList.getD k 0) = (decide ((s.data.toList.getD k 0).toNat < 32) || decide (126 < (s.data.toList.getD k 0).toNat) || decide ((s.data.toList.getD k 0).toNat = 34)) := rfl
      have HBD := hide hbd
      clear hbd
      have hx : (s.data.toList.getD k 0).toNat < 256 := (s.data.toList.getD k 0).toNat_lt
      generalize hcc : s.data.toList.getD k 0 = cc at *
      generalize hcx : cc.toNat = x at *
      by_cases h1 : x < 32
      · have e1 : decide ((x : Int) < 32) = true := decide_eq_true (by omega)
        have HE := hide (HQ.out (by rw [HBD.out]; simp [h1]))
        clear h1 hcc hcx
        go_wp2_with fail
        (try simp only [Exit.inBlock, Exit.then])
        go_returns
        exact ⟨by rw [HE.out]; rfl, HB0.out⟩
      · have e1 : decide ((x : Int) < 32) = false := decide_eq_false (by omega)
        by_cases h2 : 126 < x
        · have e2 : decide ((126 : Int) < (x : Int)) = true := decide_eq_true (by omega)
          have HE := hide (HQ.out (by rw [HBD.out]; simp [h2]))
          clear h1 h2 hcc hcx
          go_wp2_with fail
          (try simp only [Exit.inBlock, Exit.then])
          go_returns
          exact ⟨by rw [HE.out]; rfl, HB0.out⟩
        · have e2 : decide ((126 : Int) < (x : Int)) = false := decide_eq_false (by omega)
          by_cases h3 : x = 34
          · have e3 : ((x : Int) == 34) = true := beq_it (by omega)
            have HE := hide (HQ.out (by rw [HBD.out]; simp [h3]))
            clear h1 h2 h3 hcc hcx
            go_wp2_with fail
            (try simp only [Exit.inBlock, Exit.then])
            go_returns
            exact ⟨by rw [HE.out]; rfl, HB0.out⟩
          · have e3 : ((x : Int) == 34) = false := beq_if (by omega)
            have HE := hide (show badB cc = false from by rw [HBD.out]; simp [h3]; omega)
            have HCC := hide hcc
            clear h1 h2 h3 hcc hcx
            go_wp2_with fail
            go_roundw
            case rel =>
              refine ⟨k + 1, by go_num, by have := HLT.out; omega, by first | rfl | trivial, fun i hi => ?_⟩
              rcases Nat.lt_or_ge i k with h | h
              · exact HBS.out i h
              · obtain rfl : i = k := by omega
                rw [HCC.out]
                exact HE.out
            case measure => have := HLT.out; simp [intOf]; omega
    · obtain rfl : k = s.size := by omega
      have hall : ∀ c ∈ T s, badB c = false := by
        intro c hc
        obtain ⟨i, hi, rfl⟩ := List.getElem_of_mem hc
        have := HBS.out i (by omega)
        rw [List.getD_eq_getElem?_getD, show s.data.toList = T s from rfl, List.getElem?_eq_getElem hi] at this
        exact this
      have hany : (T s).any badB = false := by
        rw [List.any_eq_false]
        intro c hc
        rw [hall c hc]; decide
      have hq : quoteV (T s) = if T s = [] ∨ 0 ≤ Lib.indexAny (T s) [32, 123, 125, 59, 91, 93, 35] ∨ 0 ≤ Lib.index (T s) [47, 42] then .tuple #[.string ⟨([34] ++ T s ++ [34]).toArray⟩, .bool true] else .tuple #[.string ⟨(T s).toArray⟩, .bool true] := by
        unfold quoteV quoteT
        rw [if_neg (by rw [hany]; decide)]
        by_cases hcd : T s = [] ∨ 0 ≤ Lib.indexAny (T s) [32, 123, 125, 59, 91, 93, 35] ∨ 0 ≤ Lib.index (T s) [47, 42]
        · rw [if_pos hcd, if_pos hcd]
        · rw [if_neg hcd, if_neg hcd]
      have hasc : ∀ (j : Nat) b, s.data.toList[j]? = some b → b.toNat < 128 := by
        intro j b hj
        have := hall b (List.mem_of_getElem? hj)
        unfold badB at this
        simp only [Bool.or_eq_false_iff, decide_eq_false_iff_not] at this
        omega
      have HQ := hide hq
      have HM2 := hide (cellB HB0.out HM.out)
      have HCA := hide (Try.strings_ContainsAny_laid s ⟨#[32, 123, 125, 59, 91, 93, 35]⟩ (Lib.bytesWorld w 5 s) hs (by decide) hasc (by
        intro j b hj
        match j, hj with
        | 0, hj | 1, hj | 2, hj | 3, hj | 4, hj | 5, hj | 6, hj => simp at hj; subst hj; decide
        | j + 7, hj => simp at hj))
      have HCO := hide (fun w' (hb : Below (Lib.bytesWorld w 5 s).heap.size (Lib.bytesWorld w 5 s) w') => Try.strings_Contains s ⟨#[47, 42]⟩ m w' hs (cellB hb HM2.out))
      have hd1 : decide ((s.size : Int) < (s.size : Int)) = false := decide_eq_false (by omega)
      clear hq hany hall hasc hge hk HC HBS
      by_cases h0 : T s = []
      · have hem : s.toList.isEmpty = true := by rw [ByteArray.toList_eq, show s.data.toList = T s from rfl, h0]; rfl
        have HE := hide (HQ.out.trans (if_pos (.inl h0)))
        have hz : s.size = 0 := by rw [← hln, h0]; rfl
        clear h0 hln
        go_wp2_with fail
        (try simp only [Exit.inBlock, Exit.then])
        go_returns
        exact ⟨by rw [HE.out, ← quote_bytes s _ rfl]; rfl, HB0.out⟩
      · have hem : s.toList.isEmpty = false := by
          rw [ByteArray.toList_eq, show s.data.toList = T s from rfl]
          cases h : T s with
          | nil => exact absurd h h0
          | cons x xs => rfl
        have hz : ¬ s.size = 0 := fun h => h0 (List.eq_nil_of_length_eq_zero (by omega))
        have H0 := hide h0
        clear h0 hln
        go_wp2_with fail
        refine HCA.out.mono ?_
        rintro e w2 ⟨rfl, hb2⟩
        have HB2 := hide (below_wide HB0.out hb2)
        have HCO2 := hide (HCO.out w2 hb2)
        clear hb2 HCA HCO
        by_cases h1 : 0 ≤ Lib.indexAny (T s) [32, 123, 125, 59, 91, 93, 35]
        · have h1' : Lib.containsAny s.data.toList [32, 123, 125, 59, 91, 93, 35] = true := decide_eq_true h1
          have HE := hide (HQ.out.trans (if_pos (.inr (.inl h1))))
          clear h1
          go_wp2_with fail
          (try simp only [Exit.inBlock, Exit.then])
          go_returns
          exact ⟨by rw [HE.out, ← quote_bytes s _ rfl]; rfl, HB2.out⟩
        · have h1' : Lib.containsAny s.data.toList [32, 123, 125, 59, 91, 93, 35] = false := decide_eq_false h1
          have H1 := hide h1
          clear h1
          go_wp2_with fail
          refine HCO2.out.mono ?_
          rintro e w3 ⟨rfl, rfl⟩
          by_cases h2 : 0 ≤ Lib.index (T s) [47, 42]
          · have h2' : Lib.contains s.data.toList [47, 42] = true := decide_eq_true h2
            have HE := hide (HQ.out.trans (if_pos (.inr (.inr h2))))
            clear h2
            go_wp2_with fail
            (try simp only [Exit.inBlock, Exit.then])
            go_returns
            exact ⟨by rw [HE.out, ← quote_bytes s _ rfl]; rfl, HB2.out⟩
          · have h2' : Lib.contains s.data.toList [47, 42] = false := decide_eq_false h2
            have HE := hide (HQ.out.trans (if_neg (fun h => by
              rcases h with h | h | h
              · exact absurd h H0.out
              · exact absurd h (by have := H1.out; omega)
              · exact absurd h h2)))
            clear h2
            go_wp2_with fail
            (try simp only [Exit.inBlock, Exit.then])
            go_returns
            exact ⟨by rw [HE.out]; rfl, HB2.out⟩
end Go.Proofs.Ytihmmmodimionaa.Tr
