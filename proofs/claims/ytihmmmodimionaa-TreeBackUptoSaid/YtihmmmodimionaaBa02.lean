/- What the claim leans on, part 2 of 15: YE TX T BT RG B C. -/
import Derived.Deep.LoopGhost
import Derived.Lib.ConvBytes
import Derived.Lib.IndexAny
import Derived.OrdersHeld
import Derived.Test.YtihmmmodimionaaBa01
import Derived.Test.YtihmmmodimionaaShelf
/- What is written is cut into the tokens that it was written of; in plain words, no program is in sight. -/
namespace Go.Proofs.Ytihmmmodimionaa.Tr
open Go.RowKit Go.Proofs.Ytihmmmodimionaa Go.Proofs.Ytihmmmodimionaa.Lx

abbrev KT' := Int × List UInt8
/-- the tokens that statements are written of -/
def tokW : Fo → List KT'
  | .nil => []
  | .cons ws _ b K R => ws.map (fun w => ((1 : Int), T w)) ++ ((if b = true then (2, [123]) :: (tokW K ++ [(3, [125])]) else [(4, [59])]) ++ tokW R)
theorem anyIdx_not {S : List UInt8} : ∀ {w : List UInt8}, ¬ (0 ≤ Lib.indexAny w S) → ∀ x ∈ w, x ∉ S
  | [], _, x, h => by cases h
  | b :: l, hi, x, h => by
    unfold Lib.indexAny at hi
    have hge := Lib.indexAny_ge S l
    split at hi
    · exact absurd (Int.le_refl _) hi
    · rename_i hc
      have h2 : ¬ 0 ≤ Lib.indexAny l S := by
        intro h3
        apply hi
        rw [if_neg (by simp; omega)]
        omega
      rcases List.mem_cons.1 h with rfl | h
      · intro hm
        exact hc (by simpa using hm)
      · exact anyIdx_not h2 x h
theorem byte_neg {S : List UInt8} {x : UInt8} (h : x ∉ S) : ¬ (0 ≤ Lib.indexByte S x) := by
  intro h0
  have h1 := (Lib.contains_iff_indexByte S x).symm
  have : S.contains x = false := by simpa using h
  rw [this] at h1
  simp at h1
  omega
theorem idx_cons {x : UInt8} {xs p : List UInt8} (h : ¬ (0 ≤ Lib.index (x :: xs) p)) : p.isPrefixOf (x :: xs) = false ∧ ¬ (0 ≤ Lib.index xs p) := by
  have hge := Lib.index_ge xs p
  unfold Lib.index at h
  split at h
  · exact absurd (Int.le_refl _) h
  · rename_i hp
    refine ⟨by cases hh : p.isPrefixOf (x :: xs) with | false => rfl | true => exact absurd hh hp, fun h2 => h ?_⟩
    rw [if_neg (by simp; omega)]
    omega
/-- bytes of a word that is written bare -/
def bareB (x : UInt8) : Prop := okB x ∧ x ∉ endB
theorem firstN_word (y : UInt8) (r : List UInt8) (hy : y ∈ endB) (hy2 : y ≠ 42) : ∀ (w : List UInt8), (∀ x ∈ w, bareB x) → ¬ (0 ≤ Lib.index w [47, 42]) → firstN isEnd (w ++ y :: r) = w.length
  | [], _, _ => by
    rw [List.nil_append, firstN, if_pos]
    · rfl
    · unfold isEnd
      rw [Bool.or_eq_true]
      left
      rw [decide_eq_true_eq]
      have := (Lib.contains_iff_indexByte endB y)
      rw [show endB.contains y = true by simpa using hy] at this
      simpa using this.symm
  | x :: xs, hb, hi => by
    obtain ⟨h1, h2⟩ := idx_cons hi
    rw [List.cons_append, firstN, if_neg, firstN_word y r hy hy2 xs (fun z hz => hb z (by simp [hz])) h2]
    · rfl
    · unfold isEnd
      rw [Bool.or_eq_true]
      rintro (h | h)
      · exact byte_neg (hb x (by simp)).2 (of_decide_eq_true h)
      · cases xs with
        | nil =>
          simp [Lib.hasPrefix, List.isPrefixOf] at h
          exact hy2 h.2.symm
        | cons z zs =>
          simp [List.isPrefixOf] at h1
          simp [Lib.hasPrefix, List.isPrefixOf] at h
          exact h1 h.1 h.2
theorem K_word {w : List UInt8} (y : UInt8) (r : List UInt8) (hy : y ∈ endB) (hy2 : y ≠ 42) (hne : w ≠ []) (hb : ∀ x ∈ w, bareB x) (hi : ¬ (0 ≤ Lib.index w [47, 42])) : K (w ++ y :: r) = (K (y :: r)).map (fun q => ((1 : Int), w) :: q) := by
  obtain ⟨x, xs, rfl⟩ := List.exists_cons_of_ne_nil hne
  have hx := hb x (by simp)
  have hf := firstN_word y r hy hy2 (x :: xs) hb hi
  have hne2 : ∀ z ∈ endB, x ≠ z := fun z hz e => hx.2 (e ▸ hz)
  have hst : Lx.step (x :: xs ++ y :: r) = ⟨false, true, 1, x :: xs, (x :: xs).length⟩ := by
    unfold Lx.step
    rw [show (x :: xs ++ y :: r).headD 0 = x from rfl, if_neg (by rintro (h | h); exact hne2 32 (by decide) h; exact hne2 10 (by decide) h), if_neg (hne2 35 (by decide)), if_neg, if_neg (hne2 34 (by decide)), if_neg, hf]
    · simp
    · refine byte_neg (fun hm => ?_)
      exact hx.2 (by
        simp [signs] at hm
        rcases hm with rfl | rfl | rfl | rfl | rfl <;> decide)
    · intro h
      have h1 := (idx_cons hi).1
      cases xs with
      | nil =>
        simp [Lib.hasPrefix, List.isPrefixOf] at h
        exact hy2 h.2.symm
      | cons z zs =>
        simp [List.isPrefixOf] at h1
        simp [Lib.hasPrefix, List.isPrefixOf] at h
        exact h1 h.1 h.2
  rw [K_step _ (by simp) (by rw [hst]), hst]
  have hd : (x :: xs ++ y :: r).drop (x :: xs).length = y :: r := List.drop_left' rfl
  simp only [hd, if_true, List.singleton_append]
theorem badB_ok {w : List UInt8} (h : w.any badB = false) : ∀ x ∈ w, okB x ∧ x ≠ 34 := by
  intro x hx
  have h1 : badB x = false := by
    cases hb : badB x with
    | false => rfl
    | true => exact absurd (List.any_eq_true.2 ⟨x, hx, hb⟩) (by rw [h]; decide)
  unfold badB at h1
  simp only [Bool.or_eq_false_iff, decide_eq_false_iff_not] at h1
  exact ⟨⟨by omega, by omega⟩, fun e => h1.2 (by rw [e]; rfl)⟩
theorem K_quote {w q : List UInt8} (h : quoteT w = some q) (y : UInt8) (r : List UInt8) (hy : y = 32 ∨ y = 59) : K (q ++ y :: r) = (K (y :: r)).map (fun u => ((1 : Int), w) :: u) := by
  unfold quoteT at h
  split at h
  · cases h
  · rename_i hb
    have hok := badB_ok (by simpa using hb)
    split at h
    · injection h with h
      subst h
      have := K_tok ⟨1, w, 0, 0⟩ (.inl ⟨rfl, hok⟩) (y :: r)
      rw [show wrT ⟨1, w, 0, 0⟩ ++ y :: r = [34] ++ w ++ [34] ++ y :: r by simp [wrT]] at this
      exact this
    · rename_i hn
      injection h with h
      subst h
      have h1 : w ≠ [] := fun e => hn (.inl e)
      have h2 := anyIdx_not (fun e => hn (.inr (.inl e)))
      refine K_word y r (by rcases hy with rfl | rfl <;> decide) (by rcases hy with rfl | rfl <;> decide) h1 (fun x hx => ⟨(hok x hx).1, fun hm => ?_⟩) (fun e => hn (.inr (.inr e)))
      have h3 := h2 x hx
      have h4 := hok x hx
      have h5 := okB_ne h4.1
      simp [endB] at hm
      simp at h3
      rcases hm with e | e | e | e | e | e | e | e | e
      all_goals first | exact h5 e | exact h4.2 e | (simp [e] at h3)
theorem K_tail (y : UInt8) (r : List UInt8) (hy : y = 32 ∨ y = 59) : ∀ (ws : List ByteArray) (qs : List (List UInt8)), quotesT ws = some qs → K (Lib.joinTail [32] qs ++ y :: r) = (K (y :: r)).map (fun u => ws.map (fun w => ((1 : Int), T w)) ++ u)
  | [], qs, h => by
    injection h with h
    subst h
    simp [Lib.joinTail]
  | w :: ws, qs, h => by
    unfold quotesT at h
    cases hq : quoteT (T w) with
    | none => rw [hq] at h; cases h
    | some q =>
      rw [hq] at h
      cases hqs : quotesT ws with
      | none => rw [hqs] at h; cases h
      | some qs' =>
        rw [hqs] at h
        injection h with h
        subst h
        have ih := K_tail y r hy ws qs' hqs
        have e : Lib.joinTail [32] (q :: qs') ++ y :: r = 32 :: (q ++ (Lib.joinTail [32] qs' ++ y :: r)) := by simp [Lib.joinTail]
        rw [e, K_blank 32 (.inl rfl)]
        have e2 : ∃ z r', Lib.joinTail [32] qs' ++ y :: r = z :: r' ∧ (z = 32 ∨ z = 59) := by
          cases qs' with
          | nil => exact ⟨y, r, rfl, hy⟩
          | cons a b => exact ⟨32, _, by simp [Lib.joinTail]; rfl, .inl rfl⟩
        obtain ⟨z, r', hz, hz2⟩ := e2
        rw [hz, K_quote hq z r' hz2, ← hz, ih]
        simp only [Option.map_map]
        congr 1
theorem K_join (y : UInt8) (r : List UInt8) (hy : y = 32 ∨ y = 59) {ws : List ByteArray} {qs : List (List UInt8)} (h : quotesT ws = some qs) (hne : ws.length ≠ 0) : K (Lib.join qs [32] ++ y :: r) = (K (y :: r)).map (fun u => ws.map (fun w => ((1 : Int), T w)) ++ u) := by
  have hk := K_tail y r hy ws qs h
  cases ws with
  | nil => exact absurd rfl hne
  | cons w ws =>
    unfold quotesT at h
    cases hq : quoteT (T w) with
    | none => rw [hq] at h; cases h
    | some q =>
      rw [hq] at h
      cases hqs : quotesT ws with
      | none => rw [hqs] at h; cases h
      | some qs' =>
        rw [hqs] at h
        injection h with h
        subst h
        have e : Lib.joinTail [32] (q :: qs') ++ y :: r = 32 :: (Lib.join (q :: qs') [32] ++ y :: r) := by simp [Lib.joinTail, Lib.join_cons]
        rw [e, K_blank 32 (.inl rfl)] at hk
        exact hk
theorem K_sign (x : UInt8) (k : Int) (hx : 0 ≤ Lib.indexByte signs x) (hk : k = 2 + Lib.indexByte signs x) (r : List UInt8) : K (x :: r) = (K r).map (fun u => (k, [x]) :: u) := by
  have := K_tok ⟨k, [x], 0, 0⟩ (.inr ⟨by simp only; omega, x, rfl, hx, hk⟩) r
  rwa [show wrT ⟨k, [x], 0, 0⟩ ++ r = x :: r by simp only [wrT]; rw [if_neg (by omega)]; rfl] at this
theorem K_write : ∀ (F : Fo) (d : Nat) (t r : List UInt8), writeF d F = some t → K (t ++ r) = (K r).map (fun u => tokW F ++ u)
  | .nil, d, t, r, h => by
    injection h with h
    subst h
    simp [tokW]
  | .cons ws ps b Kd R, d, t, r, h => by
    unfold writeF at h
    split at h
    · cases h
    · rename_i hc
      have h0 : ws.length ≠ 0 := fun e => hc (.inl e)
      cases hq : quotesT ws with
      | none => rw [hq] at h; cases h
      | some qs =>
        rw [hq] at h
        simp only at h
        cases b with
        | false =>
          simp only [Bool.false_eq_true, if_false] at h
          cases hR : writeF d R with
          | none => rw [hR] at h; cases h
          | some rt =>
            rw [hR] at h
            injection h with h
            subst h
            have ih := K_write R d rt r hR
            have e : indT d ++ Lib.join qs [32] ++ [59, 10] ++ rt ++ r = blk (4 * d) ++ (Lib.join qs [32] ++ 59 :: 10 :: (rt ++ r)) := by simp [indT, blk]
            rw [e, K_blk, K_join 59 _ (.inr rfl) hq h0, K_sign 59 4 (by decide) (by decide), K_blank 10 (.inr rfl), ih]
            simp only [Option.map_map]
            congr 1
            funext u
            simp [tokW]
        | true =>
          simp only [if_true] at h
          cases hK : writeF (d + 1) Kd with
          | none => rw [hK] at h; cases h
          | some kt =>
            rw [hK] at h
            simp only at h
            cases hR : writeF d R with
            | none => rw [hR] at h; cases h
            | some rt =>
              rw [hR] at h
              injection h with h
              subst h
              have ihK := fun r => K_write Kd (d + 1) kt r hK
              have ihR := K_write R d rt r hR
              have e : indT d ++ Lib.join qs [32] ++ [32, 123, 10] ++ kt ++ (indT d ++ [125, 10]) ++ rt ++ r = blk (4 * d) ++ (Lib.join qs [32] ++ 32 :: 123 :: 10 :: (kt ++ (blk (4 * d) ++ 125 :: 10 :: (rt ++ r)))) := by simp [indT, blk]
              rw [e, K_blk, K_join 32 _ (.inl rfl) hq h0, K_blank 32 (.inl rfl), K_sign 123 2 (by decide) (by decide), K_blank 10 (.inr rfl), ihK, K_blk, K_sign 125 3 (by decide) (by decide), K_blank 10 (.inr rfl), ihR]
              simp only [Option.map_map]
              congr 1
              funext u
              simp [tokW]
/-- what is written may stand in a text -/
theorem quote_ok {w q : List UInt8} (h : quoteT w = some q) : ∀ x ∈ q, okB x := by
  unfold quoteT at h
  split at h
  · cases h
  · rename_i hb
    have hok := badB_ok (by simpa using hb)
    have h34 : okB 34 := by unfold okB; decide
    split at h
    · injection h with h
      subst h
      intro x hx
      simp at hx
      rcases hx with rfl | hx | rfl
      · exact h34
      · exact (hok x hx).1
      · exact h34
    · injection h with h
      subst h
      exact fun x hx => (hok x hx).1
theorem tail_ok : ∀ (ws : List ByteArray) (qs : List (List UInt8)), quotesT ws = some qs → ∀ x ∈ Lib.joinTail [32] qs, okB x
  | [], qs, h, x, hx => by
    injection h with h
    subst h
    simp [Lib.joinTail] at hx
  | w :: ws, qs, h, x, hx => by
    unfold quotesT at h
    cases hq : quoteT (T w) with
    | none => rw [hq] at h; cases h
    | some q =>
      rw [hq] at h
      cases hqs : quotesT ws with
      | none => rw [hqs] at h; cases h
      | some qs' =>
        rw [hqs] at h
        injection h with h
        subst h
        have e : Lib.joinTail [32] (q :: qs') = 32 :: (q ++ Lib.joinTail [32] qs') := by simp [Lib.joinTail]
        rw [e] at hx
        rcases List.mem_cons.1 hx with rfl | hx
        · unfold okB; decide
        · rcases List.mem_append.1 hx with hx | hx
          · exact quote_ok hq x hx
          · exact tail_ok ws qs' hqs x hx
theorem join_ok {ws : List ByteArray} {qs : List (List UInt8)} (h : quotesT ws = some qs) : ∀ x ∈ Lib.join qs [32], okB x := by
  intro x hx
  refine tail_ok ws qs h x ?_
  cases qs with
  | nil => simp [Lib.join_nil] at hx
  | cons q qs =>
    rw [Lib.join_cons] at hx
    have e : Lib.joinTail [32] (q :: qs) = 32 :: (q ++ Lib.joinTail [32] qs) := by simp [Lib.joinTail]
    rw [e]
    exact List.mem_cons_of_mem _ hx
theorem ok_count {s : List UInt8} (h : ∀ x ∈ s, okB x) : s.count 10 = 0 := by
  rw [List.count_eq_zero]
  exact fun hm => okB_ne (h _ hm) rfl
theorem write_ok : ∀ (F : Fo) (d : Nat) (t : List UInt8), writeF d F = some t → (∀ x ∈ t, x = 10 ∨ okB x) ∧ t.count 10 ≤ 2 * F.nodes
  | .nil, d, t, h => by
    injection h with h
    subst h
    exact ⟨fun x hx => (by cases hx), by simp⟩
  | .cons ws ps b Kd R, d, t, h => by
    have hind : ∀ x ∈ indT d, okB x := fun x hx => blk_ok (4 * d) x hx
    have o59 : okB 59 := by unfold okB; decide
    have o32 : okB 32 := by unfold okB; decide
    have o123 : okB 123 := by unfold okB; decide
    have o125 : okB 125 := by unfold okB; decide
    unfold writeF at h
    split at h
    · cases h
    · cases hq : quotesT ws with
      | none => rw [hq] at h; cases h
      | some qs =>
        rw [hq] at h
        have hj := join_ok hq
        have hcj := ok_count hj
        have hci := ok_count hind
        simp only at h
        cases b with
        | false =>
          simp only [Bool.false_eq_true, if_false] at h
          cases hR : writeF d R with
          | none => rw [hR] at h; cases h
          | some rt =>
            rw [hR] at h
            injection h with h
            subst h
            obtain ⟨h1, h2⟩ := write_ok R d rt hR
            refine ⟨fun x hx => ?_, ?_⟩
            · simp only [List.mem_append, List.mem_cons, List.not_mem_nil, or_false] at hx
              rcases hx with ((hx | hx) | hx | hx) | hx
              · exact .inr (hind x hx)
              · exact .inr (hj x hx)
              · exact .inr (hx ▸ o59)
              · exact .inl hx
              · exact h1 x hx
            · simp only [List.count_append, hcj, hci]
              show 0 + 0 + 1 + rt.count 10 ≤ 2 * (Kd.nodes + R.nodes + 1)
              omega
        | true =>
          simp only [if_true] at h
          cases hK : writeF (d + 1) Kd with
          | none => rw [hK] at h; cases h
          | some kt =>
            rw [hK] at h
            simp only at h
            cases hR : writeF d R with
            | none => rw [hR] at h; cases h
            | some rt =>
              rw [hR] at h
              injection h with h
              subst h
              obtain ⟨h1, h2⟩ := write_ok R d rt hR
              obtain ⟨h3, h4⟩ := write_ok Kd (d + 1) kt hK
              refine ⟨fun x hx => ?_, ?_⟩
              · simp only [List.mem_append, List.mem_cons, List.not_mem_nil, or_false] at hx
                rcases hx with ((((hx | hx) | hx | hx | hx) | hx) | (hx | hx | hx)) | hx
                · exact .inr (hind x hx)
                · exact .inr (hj x hx)
                · exact .inr (hx ▸ o32)
                · exact .inr (hx ▸ o123)
                · exact .inl hx
                · exact h3 x hx
                · exact .inr (hind x hx)
                · exact .inr (hx ▸ o125)
                · exact .inl hx
                · exact h1 x hx
              · simp only [List.count_append, hcj, hci]
                show 0 + 0 + 1 + kt.count 10 + (0 + 1) + rt.count 10 ≤ 2 * (Kd.nodes + R.nodes + 1)
                omega
end Go.Proofs.Ytihmmmodimionaa.Tr
/- quoted: a word as it is written. -/
namespace Go.Proofs.Ytihmmmodimionaa.Tr
open Go.RowKit Go.Proofs.Ytihmmmodimionaa Go.Proofs.Ytihmmmodimionaa.Lx

def quoteV (w : List UInt8) : Value := match quoteT w with
  | some q => .tuple #[.string ⟨q.toArray⟩, .bool true]
  | none => .tuple #[.string ⟨#[]⟩, .bool false]
theorem bytes_below (w : World) (e : TypeId) (s : ByteArray) : Below w.heap.size w (Lib.bytesWorld w e s) :=
  ⟨rfl, rfl, rfl, by rw [Lib.bytesWorld_size]; omega, fun k hk => Lib.bytesWorld_at_old w e s k hk⟩
theorem any_get {w : List UInt8} {p : UInt8 → Bool} {k : Nat} (hk : k < w.length) (h : p w[k] = true) : w.any p = true :=
  List.any_eq_true.2 ⟨w[k], List.getElem_mem hk, h⟩
theorem quote_bytes (s : ByteArray) (q : List UInt8) (h : q = [34] ++ T s ++ [34]) : ((⟨#[34]⟩ : ByteArray) ++ s) ++ (⟨#[34]⟩ : ByteArray) = ⟨q.toArray⟩ := by
  subst h
  apply ByteArray.ext
  simp [ByteArray.data_append, T]
set_option maxHeartbeats 2000000 in
theorem quoted_any (s : ByteArray) (w : World) (hs : s.size < 4294967281) (m : Int) (hm : w.cell? ⟨0, 0, none⟩ = some (.int .i64 m)) :
    Calls Try.prog 64 #[.string s] w fun e w' => e = .returned (quoteV (T s)) ∧ Below w.heap.size w w' := by
  have hcv := fun w s => Lib.run_convert_string_bytes (P := Try.prog) w 9 82 5 s Try.underlying9 Try.underlying82 Try.underlying5
  have HB0 := hide (bytes_below w 5 s)
  have HC := hide (fun j hj => Lib.bytesWorld_cell w 5 s j hj)
  have HM := hide hm
  clear hm
  go_enter Try.func64, Try.ntmps64
  go_wp2_with fail
  go_loopw [9] (fun j wr => ∃ k : Nat, j = .int .i64 k ∧ k ≤ s.size ∧ wr = Lib.bytesWorld w 5 s ∧ ∀ i : Nat, i < k → badB (s.data.toList.getD i 0) = false) (fun j _ => s.size - (intOf j).toNat)
  case atStart => exact ⟨0, rfl, Nat.zero_le _, rfl, fun i hi => absurd hi (Nat.not_lt_zero i)⟩
  case round =>
    obtain ⟨k, rfl, hk, rfl, hbs⟩ := hrel
    have HBS := hide hbs
    clear hbs
    have hln : (T s).length = s.size := T_len s
    rcases Nat.lt_or_ge k s.size with hlt | hge
    · have hc := HC.out k hlt
      have hq : badB (s.data.toList.getD k 0) = true → quoteV (T s) = .tuple #[.string ⟨#[]⟩, .bool false] := fun hb => by
        have : (T s).any badB = true := any_get (k := k) (by omega) (by
          rw [← hb]
          congr 1
          rw [List.getD_eq_getElem?_getD, show s.data.toList = T s from rfl, List.getElem?_eq_getElem (by omega)]
          rfl)
        unfold quoteV quoteT
        rw [if_pos this]
      have HQ := hide hq
      have HLT := hide hlt
      clear hq hln
      have hbd : badB (s.data.toList.getD k 0) = (decide ((s.data.toList.getD k 0).toNat < 32) || decide (126 < (s.data.toList.getD k 0).toNat) || decide ((s.data.toList.getD k 0).toNat = 34)) := rfl
      have HBD := hide hbd
      clear hbd
      have hx : (s.data.toList.getD k 0).toNat < 256 := (s.data.toList.getD k 0).toNat_lt
      generalize hcc : s.data.toList.getD k 0 = cc at *
      generalize hcx : cc.toNat = x at *
      by_cases h1 : x < 32
      · have e1 : decide ((x : Int) < 32) = true := decide_eq_true (by omega)
        have HE := hide (HQ.out (by rw [HBD.out]; simp [h1]))
        clear h1 hcc hcx
        go_wp2_with fail
        (try simp only [Exit.inBlock, Exit.then])
        go_returns
        exact ⟨by rw [HE.out]; rfl, HB0.out⟩
      · have e1 : decide ((x : Int) < 32) = false := decide_eq_false (by omega)
        by_cases h2 : 126 < x
        · have e2 : decide ((126 : Int) < (x : Int)) = true := decide_eq_true (by omega)
          have HE := hide (HQ.out (by rw [HBD.out]; simp [h2]))
          clear h1 h2 hcc hcx
          go_wp2_with fail
          (try simp only [Exit.inBlock, Exit.then])
          go_returns
          exact ⟨by rw [HE.out]; rfl, HB0.out⟩
        · have e2 : decide ((126 : Int) < (x : Int)) = false := decide_eq_false (by omega)
          by_cases h3 : x = 34
          · have e3 : ((x : Int) == 34) = true := beq_it (by omega)
            have HE := hide (HQ.out (by rw [HBD.out]; simp [h3]))
            clear h1 h2 h3 hcc hcx
            go_wp2_with fail
            (try simp only [Exit.inBlock, Exit.then])
            go_returns
            exact ⟨by rw [HE.out]; rfl, HB0.out⟩
          · have e3 : ((x : Int) == 34) = false := beq_if (by omega)
            have HE := hide (show badB cc = false from by rw [HBD.out]; simp [h3]; omega)
            have HCC := hide hcc
            clear h1 h2 h3 hcc hcx
            go_wp2_with fail
            go_roundw
            case rel =>
              refine ⟨k + 1, by go_num, by have := HLT.out; omega, by first | rfl | trivial, fun i hi => ?_⟩
              rcases Nat.lt_or_ge i k with h | h
              · exact HBS.out i h
              · obtain rfl : i = k := by omega
                rw [HCC.out]
                exact HE.out
            case measure => have := HLT.out; simp [intOf]; omega
    · obtain rfl : k = s.size := by omega
      have hall : ∀ c ∈ T s, badB c = false := by
        intro c hc
        obtain ⟨i, hi, rfl⟩ := List.getElem_of_mem hc
        have := HBS.out i (by omega)
        rw [List.getD_eq_getElem?_getD, show s.data.toList = T s from rfl, List.getElem?_eq_getElem hi] at this
        exact this
      have hany : (T s).any badB = false := by
        rw [List.any_eq_false]
        intro c hc
        rw [hall c hc]; decide
      have hq : quoteV (T s) = if T s = [] ∨ 0 ≤ Lib.indexAny (T s) [32, 123, 125, 59, 91, 93, 35] ∨ 0 ≤ Lib.index (T s) [47, 42] then .tuple #[.string ⟨([34] ++ T s ++ [34]).toArray⟩, .bool true] else .tuple #[.string ⟨(T s).toArray⟩, .bool true] := by
        unfold quoteV quoteT
        rw [if_neg (by rw [hany]; decide)]
        by_cases hcd : T s = [] ∨ 0 ≤ Lib.indexAny (T s) [32, 123, 125, 59, 91, 93, 35] ∨ 0 ≤ Lib.index (T s) [47, 42]
        · rw [if_pos hcd, if_pos hcd]
        · rw [if_neg hcd, if_neg hcd]
      have hasc : ∀ (j : Nat) b, s.data.toList[j]? = some b → b.toNat < 128 := by
        intro j b hj
        have := hall b (List.mem_of_getElem? hj)
        unfold badB at this
        simp only [Bool.or_eq_false_iff, decide_eq_false_iff_not] at this
        omega
      have HQ := hide hq
      have HM2 := hide (cellB HB0.out HM.out)
      have HCA := hide (Try.strings_ContainsAny_laid s ⟨#[32, 123, 125, 59, 91, 93, 35]⟩ (Lib.bytesWorld w 5 s) hs (by decide) hasc (by
        intro j b hj
        match j, hj with
        | 0, hj | 1, hj | 2, hj | 3, hj | 4, hj | 5, hj | 6, hj => simp at hj; subst hj; decide
        | j + 7, hj => simp at hj))
      have HCO := hide (fun w' (hb : Below (Lib.bytesWorld w 5 s).heap.size (Lib.bytesWorld w 5 s) w') => Try.strings_Contains s ⟨#[47, 42]⟩ m w' hs (cellB hb HM2.out))
      have hd1 : decide ((s.size : Int) < (s.size : Int)) = false := decide_eq_false (by omega)
      clear hq hany hall hasc hge hk HC HBS
      by_cases h0 : T s = []
      · have hem : s.toList.isEmpty = true := by rw [ByteArray.toList_eq, show s.data.toList = T s from rfl, h0]; rfl
        have HE := hide (HQ.out.trans (if_pos (.inl h0)))
        have hz : s.size = 0 := by rw [← hln, h0]; rfl
        clear h0 hln
        go_wp2_with fail
        (try simp only [Exit.inBlock, Exit.then])
        go_returns
        exact ⟨by rw [HE.out, ← quote_bytes s _ rfl]; rfl, HB0.out⟩
      · have hem : s.toList.isEmpty = false := by
          rw [ByteArray.toList_eq, show s.data.toList = T s from rfl]
          cases h : T s with
          | nil => exact absurd h h0
          | cons x xs => rfl
        have hz : ¬ s.size = 0 := fun h => h0 (List.eq_nil_of_length_eq_zero (by omega))
        have H0 := hide h0
        clear h0 hln
        go_wp2_with fail
        refine HCA.out.mono ?_
        rintro e w2 ⟨rfl, hb2⟩
        have HB2 := hide (below_wide HB0.out hb2)
        have HCO2 := hide (HCO.out w2 hb2)
        clear hb2 HCA HCO
        by_cases h1 : 0 ≤ Lib.indexAny (T s) [32, 123, 125, 59, 91, 93, 35]
        · have h1' : Lib.containsAny s.data.toList [32, 123, 125, 59, 91, 93, 35] = true := decide_eq_true h1
          have HE := hide (HQ.out.trans (if_pos (.inr (.inl h1))))
          clear h1
          go_wp2_with fail
          (try simp only [Exit.inBlock, Exit.then])
          go_returns
          exact ⟨by rw [HE.out, ← quote_bytes s _ rfl]; rfl, HB2.out⟩
        · have h1' : Lib.containsAny s.data.toList [32, 123, 125, 59, 91, 93, 35] = false := decide_eq_false h1
          have H1 := hide h1
          clear h1
          go_wp2_with fail
          refine HCO2.out.mono ?_
          rintro e w3 ⟨rfl, rfl⟩
          by_cases h2 : 0 ≤ Lib.index (T s) [47, 42]
          · have h2' : Lib.contains s.data.toList [47, 42] = true := decide_eq_true h2
            have HE := hide (HQ.out.trans (if_pos (.inr (.inr h2))))
            clear h2
            go_wp2_with fail
            (try simp only [Exit.inBlock, Exit.then])
            go_returns
            exact ⟨by rw [HE.out, ← quote_bytes s _ rfl]; rfl, HB2.out⟩
          · have h2' : Lib.contains s.data.toList [47, 42] = false := decide_eq_false h2
            have HE := hide (HQ.out.trans (if_neg (fun h => by
              rcases h with h | h | h
              · exact absurd h H0.out
              · exact absurd h (by have := H1.out; omega)
              · exact absurd h h2)))
            clear h2
            go_wp2_with fail
            (try simp only [Exit.inBlock, Exit.then])
            go_returns
            exact ⟨by rw [HE.out]; rfl, HB2.out⟩
end Go.Proofs.Ytihmmmodimionaa.Tr
/- Regions that draw their order: what only reckons may be taken first; what is left comes one by one. No program is in sight. -/
namespace Go.Proofs.Ytihmmmodimionaa

/-- an operation that only reckons -/
def plainB (o : Oper) : Bool :=
  match o.op with
  | .move _ | .assign _ | .pick .. | .build .. | .binOp .. | .unOp .. | .convert .. | .slice .. | .fieldAddr .. | .field .. | .indexAddr .. | .index .. | .extract .. => true
  | _ => false
theorem value_run {P : Program} (s : Sem Value) (w : World) : (∃ u w', (do pure (Next.value (← s)) : Sem Next).run P w = .ok (.value u) w') ∨ ∃ x w', (do pure (Next.value (← s)) : Sem Next).run P w = .halt x w' := by
  rw [Sem.run_bind]
  cases s.run P w with
  | ok u w' => exact .inl ⟨u, w', rfl⟩
  | halt x w' => exact .inr ⟨x, w', rfl⟩
theorem plain_run {P : Program} {o : Oper} {ρ : Operand → Value} (w : World) (hp : plainB o = true) : (∃ u w', (execOp ρ o).run P w = .ok (.value u) w') ∨ ∃ x w', (execOp ρ o).run P w = .halt x w' := by
  unfold plainB at hp
  unfold execOp
  split at hp <;> rename_i ho
  case h_1 => simp only [ho]; exact .inl ⟨_, _, rfl⟩
  case h_2 => simp only [ho]; exact .inl ⟨_, _, rfl⟩
  case h_3 => 
    simp only [ho]
    rw [Sem.run_bind]
    cases (asBool (ρ _)).run P w with
    | ok u w' => exact .inl ⟨_, w', rfl⟩
    | halt x w' => exact .inr ⟨x, w', rfl⟩
  case h_14 => cases hp
  all_goals (simp only [ho]; exact value_run _ _)

def ident (x : World) : World := x
/-- the class of all worlds -/
abbrev AnyW : World → Prop := fun w' => ∃ x, w' = ident x
theorem anyW (w : World) : AnyW w := ⟨w, rfl⟩

theorem yields_quiet {P : Program} {ops : Array Oper} {o : Oper} {a : Act} {K : Act → Prop} (hp : plainB o = true) (hw : Region.wanted o (yielded ops a.tmps) = true) (h : o.quiet P a AnyW K) :
    ∃ v, Yields P ops o v a ∧ K (a.put o.dst v) := by
  obtain ⟨v, h1, h2⟩ := h
  refine ⟨v, .inl ⟨hw, fun w => ?_⟩, h2⟩
  have h3 := h1 w (anyW w)
  unfold Oper.quietAt at h3
  rcases plain_run (P := P) (ρ := a.eval) w hp with ⟨u, w', e⟩ | ⟨x, w', e⟩
  · rw [e] at h3 ⊢
    obtain ⟨rfl, rfl⟩ := h3
    rfl
  · rw [e] at h3
    cases h3

/-- the operation of this number -/
inductive AtN : List Oper → Nat → Oper → Prop
  | zero {o : Oper} {l : List Oper} : AtN (o :: l) 0 o
  | succ {k : Nat} {o x : Oper} {l : List Oper} : AtN l k o → AtN (x :: l) (k + 1) o
theorem AtN.get {l : List Oper} {k : Nat} {o : Oper} (h : AtN l k o) : l[k]? = some o := by
  induction h with
  | zero => rfl
  | succ _ ih => simpa using ih
/-- the operations of these numbers -/
inductive Picks (l : List Oper) : List Nat → List Oper → Prop
  | nil : Picks l [] []
  | cons {k : Nat} {o : Oper} {ks : List Nat} {os : List Oper} : AtN l k o → Picks l ks os → Picks l (k :: ks) (o :: os)

def restB (md : Region.Mode) (ops : Array Oper) : List Nat → Array Bool → Bool
  | [], listed => (Region.ready md ops listed).isEmpty
  | k :: ks, listed => decide (Region.ready md ops listed = [k]) && restB md ops ks (listed.setIfInBounds k true)
def takenB (md : Region.Mode) (ops : Array Oper) (ks : List Nat) : List Nat → Array Bool → Bool
  | [], listed => restB md ops ks listed
  | k :: hs, listed => (Region.ready md ops listed).contains k && Region.free md ops listed k && ((ops[k]?).map plainB).getD false && takenB md ops ks hs (listed.setIfInBounds k true)

section
variable {P : Program} {md : Region.Mode} {l : List Oper} {Q : Exit → Act → World → Prop}
theorem wpAny_rest : ∀ (ks : List Nat) (os : List Oper) (listed : Array Bool) (a : Act) (w : World), Picks l ks os → restB md l.toArray ks listed = true → wpList P l.toArray Q os a w → wpAny P md l.toArray Q ks.length listed a w := by
  intro ks
  induction ks with
  | nil =>
    intro os listed a w hp hB h
    cases hp
    exact ⟨by simpa [restB] using hB, h⟩
  | cons k ks ih =>
    intro os listed a w hp hB h
    cases hp with
    | cons h0' hp =>
      rename_i o os
      have h0 : l.toArray[k]? = some o := by simpa using h0'.get
      simp only [restB, Bool.and_eq_true, decide_eq_true_eq] at hB
      refine ⟨fun h1 => (by rw [hB.1] at h1; cases h1), fun i hi => ?_⟩
      rw [hB.1] at hi
      have hik : i = k := by simpa using hi
      subst hik
      have hw : wpOp P l.toArray Q i (wpList P l.toArray Q os) a w := by unfold wpOp; simp only [h0]; exact h
      exact wpOp_mono (fun a' w' h' => ih os _ a' w' hp hB.2 h') hw
theorem hput {e : Exit} (hQ : ∀ a (d : Nat) v w, Q e (Act.put a (some d) v) w → Q e a w) (a : Act) (d : Option Nat) (v : Value) (w : World) (h : Q e (Act.put a d v) w) : Q e a w := by
  cases d with
  | none => exact h
  | some d => exact hQ a d v w h
theorem wpAny_taken (hs : Region.noSelect l.toArray = true) (hQ : ∀ c a (d : Nat) v w, Q (.panic c) (Act.put a (some d) v) w → Q (.panic c) a w) (ks : List Nat) (ks' : List Oper) (hk : Picks l ks ks') : ∀ (hds : List Nat) (os : List Oper) (listed : Array Bool) (a : Act) (w : World), Picks l hds os → takenB md l.toArray ks hds listed = true →
    wpQuiet P l.toArray AnyW (fun a' => wpList P l.toArray Q ks' a' w) os a → wpAny P md l.toArray Q (hds.length + ks.length) listed a w := by
  intro hds
  induction hds with
  | nil =>
    intro os listed a w hp hB h
    cases hp
    rw [List.length_nil, Nat.zero_add]
    exact wpAny_rest ks ks' listed a w hk hB h
  | cons k hds ih =>
    intro os listed a w hp hB h
    cases hp with
    | cons h0' hp =>
      rename_i o os
      have h0 : l.toArray[k]? = some o := by simpa using h0'.get
      simp only [takenB, Bool.and_eq_true, h0, Option.map_some, Option.getD_some] at hB
      obtain ⟨⟨⟨hr, hf⟩, hpl⟩, hB'⟩ := hB
      rw [List.length_cons, Nat.add_right_comm]
      unfold wpQuiet at h
      by_cases hw : Region.wanted o (yielded l.toArray a.tmps) = true
      · rw [if_pos hw] at h
        obtain ⟨v, hy, hK⟩ := yields_quiet hpl hw h
        exact wpAny_take h0 hs hf hr (fun c a w h => hput (hQ c) a _ _ w h) hy (ih os _ _ w hp hB' hK)
      · rw [if_neg hw] at h
        exact wpAny_take h0 hs hf hr (fun c a w h => hput (hQ c) a _ _ w h) (.inr ⟨by simpa using hw, rfl⟩) (ih os _ _ w hp hB' h)
theorem wp_region_taken {id : Nat} {a : Act} {w : World} (hds ks : List Nat) {os ks' : List Oper} (hm : P.follows .mixedOrders = true) (hl : hds.length + ks.length = l.toArray.size) (hs : Region.noSelect l.toArray = true) (hB : takenB .any l.toArray ks hds (Array.replicate l.toArray.size false) = true) (hp : Picks l hds os) (hk : Picks l ks ks')
    (hQ : ∀ c a (d : Nat) v w, Q (.panic c) (Act.put a (some d) v) w → Q (.panic c) a w) (h : wpQuiet P l.toArray AnyW (fun a' => wpList P l.toArray Q ks' a' w.drew) os a) : (Code.region id l.toArray true).wp P Q a w := by
  refine wp_region_any hm ?_
  have := wpAny_taken (P := P) (md := .any) (Q := Q) hs hQ ks ks' hk hds os _ a w.drew hp hB h
  rw [hl] at this
  exact this
/-- .. two of those that are left may come up first, whichever: what comes then is one by one -/
def twoB (md : Region.Mode) (ops : Array Oper) (i j : Nat) (ks1 ks2 : List Nat) : List Nat → Array Bool → Bool
  | [], listed => decide (Region.ready md ops listed = [i, j]) && restB md ops ks1 (listed.setIfInBounds i true) && restB md ops ks2 (listed.setIfInBounds j true)
  | k :: hs, listed => (Region.ready md ops listed).contains k && Region.free md ops listed k && ((ops[k]?).map plainB).getD false && twoB md ops i j ks1 ks2 hs (listed.setIfInBounds k true)
theorem wpAny_two (hs : Region.noSelect l.toArray = true) (hQ : ∀ c a (d : Nat) v w, Q (.panic c) (Act.put a (some d) v) w → Q (.panic c) a w) (i j : Nat) (ks1 ks2 : List Nat) (hlen : ks1.length = ks2.length) (os1 os2 : List Oper) (h1 : Picks l (i :: ks1) os1) (h2 : Picks l (j :: ks2) os2) :
    ∀ (hds : List Nat) (os : List Oper) (listed : Array Bool) (a : Act) (w : World), Picks l hds os → twoB md l.toArray i j ks1 ks2 hds listed = true →
    wpQuiet P l.toArray AnyW (fun a' => wpList P l.toArray Q os1 a' w ∧ wpList P l.toArray Q os2 a' w) os a → wpAny P md l.toArray Q (hds.length + (ks1.length + 1)) listed a w := by
  intro hds
  induction hds with
  | nil =>
    intro os listed a w hp hB h
    cases hp
    rw [List.length_nil, Nat.zero_add]
    simp only [twoB, Bool.and_eq_true, decide_eq_true_eq] at hB
    obtain ⟨⟨hr, hB1⟩, hB2⟩ := hB
    obtain ⟨g1, g2⟩ := (show wpList P l.toArray Q os1 a w ∧ wpList P l.toArray Q os2 a w from h)
    refine ⟨fun h0 => (by rw [hr] at h0; cases h0), fun k hk => ?_⟩
    rw [hr] at hk
    cases h1 with
    | cons n1 p1 =>
      cases h2 with
      | cons n2 p2 =>
        rename_i o1 os1 o2 os2
        have q1 : l.toArray[i]? = some o1 := by simpa using n1.get
        have q2 : l.toArray[j]? = some o2 := by simpa using n2.get
        rcases (by simpa using hk : k = i ∨ k = j) with rfl | rfl
        · have hw : wpOp P l.toArray Q k (wpList P l.toArray Q os1) a w := by unfold wpOp; simp only [q1]; exact g1
          exact wpOp_mono (fun a' w' h' => wpAny_rest ks1 os1 _ a' w' p1 hB1 h') hw
        · have hw : wpOp P l.toArray Q k (wpList P l.toArray Q os2) a w := by unfold wpOp; simp only [q2]; exact g2
          rw [hlen]
          exact wpOp_mono (fun a' w' h' => wpAny_rest ks2 os2 _ a' w' p2 hB2 h') hw
  | cons k hds ih =>
    intro os listed a w hp hB h
    cases hp with
    | cons h0' hp =>
      rename_i o os
      have h0 : l.toArray[k]? = some o := by simpa using h0'.get
      simp only [twoB, Bool.and_eq_true, h0, Option.map_some, Option.getD_some] at hB
      obtain ⟨⟨⟨hr, hf⟩, hpl⟩, hB'⟩ := hB
      rw [List.length_cons, Nat.add_right_comm]
      unfold wpQuiet at h
      by_cases hw : Region.wanted o (yielded l.toArray a.tmps) = true
      · rw [if_pos hw] at h
        obtain ⟨v, hy, hK⟩ := yields_quiet hpl hw h
        exact wpAny_take h0 hs hf hr (fun c a w h => hput (hQ c) a _ _ w h) hy (ih os _ _ w hp hB' hK)
      · rw [if_neg hw] at h
        exact wpAny_take h0 hs hf hr (fun c a w h => hput (hQ c) a _ _ w h) (.inr ⟨by simpa using hw, rfl⟩) (ih os _ _ w hp hB' h)
theorem wp_region_two {id : Nat} {a : Act} {w : World} (hds : List Nat) (i j : Nat) (ks1 ks2 : List Nat) {os os1 os2 : List Oper} (hm : P.follows .mixedOrders = true) (hl : hds.length + (ks1.length + 1) = l.toArray.size) (hlen : ks1.length = ks2.length) (hs : Region.noSelect l.toArray = true) (hB : twoB .any l.toArray i j ks1 ks2 hds (Array.replicate l.toArray.size false) = true) (hp : Picks l hds os) (h1 : Picks l (i :: ks1) os1) (h2 : Picks l (j :: ks2) os2)
    (hQ : ∀ c a (d : Nat) v w, Q (.panic c) (Act.put a (some d) v) w → Q (.panic c) a w) (h : wpQuiet P l.toArray AnyW (fun a' => wpList P l.toArray Q os1 a' w.drew ∧ wpList P l.toArray Q os2 a' w.drew) os a) : (Code.region id l.toArray true).wp P Q a w := by
  refine wp_region_any hm ?_
  have := wpAny_two (P := P) (md := .any) (Q := Q) hs hQ i j ks1 ks2 hlen os1 os2 h1 h2 hds os _ a w.drew hp hB h
  rw [hl] at this
  exact this
end
end Go.Proofs.Ytihmmmodimionaa
/- Regions that draw their order: what only reckons first, then each of a few orders one by one. No program is in sight. -/
namespace Go.Proofs.Ytihmmmodimionaa

def calmB (o : Oper) : Bool := plainB o || (match o.op with | .nilCheck _ => true | _ => false)
theorem calm_run {P : Program} {o : Oper} {ρ : Operand → Value} (w : World) (hp : calmB o = true) : (∃ u w', (execOp ρ o).run P w = .ok (.value u) w') ∨ ∃ x w', (execOp ρ o).run P w = .halt x w' := by
  unfold calmB at hp
  rw [Bool.or_eq_true] at hp
  rcases hp with hp | hp
  · exact plain_run w hp
  · unfold execOp
    split at hp <;> rename_i ho
    case h_2 => cases hp
    simp only [ho]
    split
    · exact .inr ⟨_, _, rfl⟩
    · exact .inr ⟨_, _, rfl⟩
    · exact .inr ⟨_, _, rfl⟩
    · split
      · exact .inr ⟨_, _, rfl⟩
      · rw [Sem.run_bind]
        cases (program).run P w with
        | halt x w' => exact .inr ⟨x, w', rfl⟩
        | ok p w' =>
          simp only [Result.andThen]
          rw [Sem.run_bind]
          cases (nilAhead (p.types.size + Made.depth) _ _ _).run P w' with
          | halt x w'' => exact .inr ⟨x, w'', rfl⟩
          | ok b w'' =>
            simp only [Result.andThen]
            split
            · exact .inr ⟨_, _, rfl⟩
            · exact .inl ⟨_, _, rfl⟩
      · exact .inl ⟨_, _, rfl⟩
    · exact .inl ⟨_, _, rfl⟩
theorem yields_calm {P : Program} {ops : Array Oper} {o : Oper} {a : Act} {K : Act → Prop} (hp : calmB o = true) (hw : Region.wanted o (yielded ops a.tmps) = true) (h : o.quiet P a AnyW K) :
    ∃ v, Yields P ops o v a ∧ K (a.put o.dst v) := by
  obtain ⟨v, h1, h2⟩ := h
  refine ⟨v, .inl ⟨hw, fun w => ?_⟩, h2⟩
  have h3 := h1 w (anyW w)
  unfold Oper.quietAt at h3
  rcases calm_run (P := P) (ρ := a.eval) w hp with ⟨u, w', e⟩ | ⟨x, w', e⟩
  · rw [e] at h3 ⊢
    obtain ⟨rfl, rfl⟩ := h3
    rfl
  · rw [e] at h3
    cases h3
/-- an operation that runs no code -/
def lightB (o : Oper) : Bool := calmB o || (match o.op with | .load .. | .buildSlice .. | .alloc _ | .lookup .. => true | _ => false)
theorem light_run {P : Program} {o : Oper} {ρ : Operand → Value} (w : World) (hp : lightB o = true) : (∃ u w', (execOp ρ o).run P w = .ok (.value u) w') ∨ ∃ x w', (execOp ρ o).run P w = .halt x w' := by
  unfold lightB at hp
  rw [Bool.or_eq_true] at hp
  rcases hp with hp | hp
  · exact calm_run w hp
  · unfold execOp
    split at hp <;> rename_i ho
    case h_5 => cases hp
    all_goals (simp only [ho]; exact value_run _ _)
/-- one path, or an operation that runs no code -/
def oneB (ops : Array Oper) (i : Nat) (ps : List (List Nat)) : Bool := decide (ps.length = 1) || (((ops[i]?).map lightB).getD false && decide (1 ≤ ps.length))
def pathsB (md : Region.Mode) (ops : Array Oper) : Nat → Array Bool → List (List Nat) → Bool
  | 0, listed, pss => (Region.ready md ops listed).isEmpty && pss.contains []
  | n + 1, listed, pss => if (Region.ready md ops listed).isEmpty then pss.contains [] else (Region.ready md ops listed).all fun i => oneB ops i ((pss.filter fun p => p.head? == some i).map List.tail) && pathsB md ops n (listed.setIfInBounds i true) ((pss.filter fun p => p.head? == some i).map List.tail)
def takenP (md : Region.Mode) (ops : Array Oper) (n : Nat) (pss : List (List Nat)) : List Nat → Array Bool → Bool
  | [], listed => pathsB md ops n listed pss
  | k :: hs, listed => (Region.ready md ops listed).contains k && Region.free md ops listed k && ((ops[k]?).map calmB).getD false && takenP md ops n pss hs (listed.setIfInBounds k true)
def Each (p : List Oper → Prop) : List (List Oper) → Prop
  | [] => True
  | [x] => p x
  | x :: xs => p x ∧ Each p xs
theorem Each.one {p : List Oper → Prop} {x : List Oper} (h : p x) : Each p [x] := h
theorem Each.cons {p : List Oper → Prop} {x : List Oper} {xs : List (List Oper)} (h : Each p (x :: xs)) : p x ∧ Each p xs := by
  cases xs with
  | nil => exact ⟨h, trivial⟩
  | cons y ys => exact h
theorem Each.all {p : List Oper → Prop} : ∀ {xs : List (List Oper)}, Each p xs → ∀ x ∈ xs, p x := by
  intro xs
  induction xs with
  | nil => intro _ x hx; cases hx
  | cons y ys ih =>
    intro h x hx
    have h' := h.cons
    rcases List.mem_cons.1 hx with rfl | hx
    · exact h'.1
    · exact ih h'.2 x hx
inductive PickAll (l : List Oper) : List (List Nat) → List (List Oper) → Prop
  | nil : PickAll l [] []
  | cons {ps : List Nat} {os : List Oper} {pss : List (List Nat)} {oss : List (List Oper)} : Picks l ps os → PickAll l pss oss → PickAll l (ps :: pss) (os :: oss)
theorem PickAll.get {l : List Oper} {pss : List (List Nat)} {oss : List (List Oper)} (h : PickAll l pss oss) : ∀ ps ∈ pss, ∃ os ∈ oss, Picks l ps os := by
  induction h with
  | nil => intro ps h; cases h
  | cons h1 _ ih =>
    intro ps hp
    rcases List.mem_cons.1 hp with rfl | hp
    · exact ⟨_, by simp, h1⟩
    · obtain ⟨os, ho, hk⟩ := ih ps hp
      exact ⟨os, by simp [ho], hk⟩
section
variable {P : Program} {md : Region.Mode} {l : List Oper} {Q : Exit → Act → World → Prop}
theorem wpAny_paths : ∀ (n : Nat) (listed : Array Bool) (pss : List (List Nat)) (a : Act) (w : World), pathsB md l.toArray n listed pss = true → (∀ ps ∈ pss, ∃ os, Picks l ps os ∧ wpList P l.toArray Q os a w) → wpAny P md l.toArray Q n listed a w := by
  intro n
  induction n with
  | zero =>
    intro listed pss a w hB h
    simp only [pathsB, Bool.and_eq_true, List.isEmpty_iff] at hB
    obtain ⟨os, ho, hw⟩ := h [] (by simpa using hB.2)
    cases ho
    exact ⟨hB.1, hw⟩
  | succ n ih =>
    intro listed pss a w hB h
    unfold pathsB at hB
    by_cases he : (Region.ready md l.toArray listed).isEmpty = true
    · rw [if_pos he] at hB
      have he' := List.isEmpty_iff.1 he
      obtain ⟨os, ho, hw⟩ := h [] (by simpa using hB)
      cases ho
      exact ⟨fun _ => hw, fun i hi => by rw [he'] at hi; cases hi⟩
    · rw [if_neg he] at hB
      have he' : Region.ready md l.toArray listed ≠ [] := fun e => he (by rw [e]; rfl)
      refine ⟨fun e => absurd e he', fun i hi => ?_⟩
      have hb := List.all_eq_true.1 hB i hi
      rw [Bool.and_eq_true] at hb
      obtain ⟨hone, hb⟩ := hb
      -- one path at least goes on with i
      have hex : ∀ ps ∈ (pss.filter fun p => p.head? == some i).map List.tail, ∃ o os, l.toArray[i]? = some o ∧ Picks l ps os ∧ wpList P l.toArray Q (o :: os) a w := by
        intro ps hps
        obtain ⟨qs, hq, rfl⟩ := List.mem_map.1 hps
        obtain ⟨hq1, hq2⟩ := List.mem_filter.1 hq
        obtain ⟨os, ho, hw⟩ := h qs hq1
        cases ho with
        | nil => simp at hq2
        | cons h0 hp =>
          rename_i k o ks os
          have hk : k = i := by simpa using hq2
          subst hk
          exact ⟨o, os, by simpa using h0.get, hp, hw⟩
      have hlt := (mem_ready.1 hi).2
      obtain ⟨o, ho, _⟩ := hlt
      have key : ∀ ps ∈ (pss.filter fun p => p.head? == some i).map List.tail, ∃ os, Picks l ps os ∧ wpList P l.toArray Q (o :: os) a w := by
        intro ps hps
        obtain ⟨o', os, e1, e2, e3⟩ := hex ps hps
        rw [ho] at e1
        cases e1
        exact ⟨os, e2, e3⟩
      generalize hps : (pss.filter fun p => p.head? == some i).map List.tail = qss at hone hb key
      unfold wpOp
      simp only [ho]
      unfold oneB at hone
      rw [Bool.or_eq_true] at hone
      unfold wpList at key
      by_cases hw : Region.wanted o (yielded l.toArray a.tmps) = true
      · simp only [hw, if_true] at key ⊢
        rcases hone with h1 | h1
        · have h1 := of_decide_eq_true h1
          obtain ⟨q, rfl⟩ : ∃ q, qss = [q] := by
            match qss, h1 with
            | [q], _ => exact ⟨q, rfl⟩
          obtain ⟨os, e2, e3⟩ := key q (by simp)
          exact e3.imp (Oper.wp_mono (fun a' w' h' => ih _ _ a' w' hb (fun ps hp => by
            obtain rfl : ps = q := by simpa using hp
            exact ⟨os, e2, h'⟩))) id
        · rw [Bool.and_eq_true, ho] at h1
          simp only [Option.map_some, Option.getD_some] at h1
          obtain ⟨hl, h1⟩ := h1
          have h1 := of_decide_eq_true h1
          by_cases has : o.asks P a w ∧ LetsOut Q
          · exact .inr has
          · left
            have key2 : ∀ ps ∈ qss, ∃ os, Picks l ps os ∧ o.wp P a w (wpList P l.toArray Q os) Q := by
              intro ps hp
              obtain ⟨os, e2, e3⟩ := key ps hp
              exact ⟨os, e2, e3.resolve_right has⟩
            unfold Oper.wp at key2 ⊢
            rcases light_run (P := P) (ρ := a.eval) w hl with ⟨u, w', e⟩ | ⟨x, w', e⟩
            · rw [e] at key2 ⊢
              exact ih _ _ _ _ hb key2
            · rw [e] at key2 ⊢
              obtain ⟨q, hq⟩ : ∃ q, q ∈ qss := by
                match qss, h1 with
                | q :: _, _ => exact ⟨q, by simp⟩
              obtain ⟨os, _, e3⟩ := key2 q hq
              cases x <;> exact e3
      · simp only [hw, Bool.false_eq_true, if_false] at key ⊢
        exact ih _ _ _ _ hb key
theorem wpAny_takenP (hs : Region.noSelect l.toArray = true) (hQ : ∀ c a (d : Nat) v w, Q (.panic c) (Act.put a (some d) v) w → Q (.panic c) a w) (n : Nat) (pss : List (List Nat)) (oss : List (List Oper)) (hk : PickAll l pss oss) : ∀ (hds : List Nat) (os : List Oper) (listed : Array Bool) (a : Act) (w : World), Picks l hds os → takenP md l.toArray n pss hds listed = true →
    wpQuiet P l.toArray AnyW (fun a' => Each (fun ks' => wpList P l.toArray Q ks' a' w) oss) os a → wpAny P md l.toArray Q (hds.length + n) listed a w := by
  intro hds
  induction hds with
  | nil =>
    intro os listed a w hp hB h
    cases hp
    rw [List.length_nil, Nat.zero_add]
    refine wpAny_paths n listed pss a w hB (fun ps hps => ?_)
    obtain ⟨os, ho, hp⟩ := hk.get ps hps
    exact ⟨os, hp, Each.all h os ho⟩
  | cons k hds ih =>
    intro os listed a w hp hB h
    cases hp with
    | cons h0' hp =>
      rename_i o os
      have h0 : l.toArray[k]? = some o := by simpa using h0'.get
      simp only [takenP, Bool.and_eq_true, h0, Option.map_some, Option.getD_some] at hB
      obtain ⟨⟨⟨hr, hf⟩, hpl⟩, hB'⟩ := hB
      rw [List.length_cons, Nat.add_right_comm]
      unfold wpQuiet at h
      by_cases hw : Region.wanted o (yielded l.toArray a.tmps) = true
      · rw [if_pos hw] at h
        obtain ⟨v, hy, hK⟩ := yields_calm hpl hw h
        exact wpAny_take h0 hs hf hr (fun c a w h => hput (hQ c) a _ _ w h) hy (ih os _ _ w hp hB' hK)
      · rw [if_neg hw] at h
        exact wpAny_take h0 hs hf hr (fun c a w h => hput (hQ c) a _ _ w h) (.inr ⟨by simpa using hw, rfl⟩) (ih os _ _ w hp hB' h)
theorem wp_region_paths {id : Nat} {a : Act} {w : World} (n : Nat) (hds : List Nat) (pss : List (List Nat)) {os : List Oper} {oss : List (List Oper)} (hm : P.follows .mixedOrders = true) (hl : hds.length + n = l.toArray.size) (hs : Region.noSelect l.toArray = true) (hB : takenP .any l.toArray n pss hds (Array.replicate l.toArray.size false) = true) (hp : Picks l hds os) (hk : PickAll l pss oss)
    (hQ : ∀ c a (d : Nat) v w, Q (.panic c) (Act.put a (some d) v) w → Q (.panic c) a w) (h : wpQuiet P l.toArray AnyW (fun a' => Each (fun ks' => wpList P l.toArray Q ks' a' w.drew) oss) os a) : (Code.region id l.toArray true).wp P Q a w := by
  refine wp_region_any hm ?_
  have := wpAny_takenP (P := P) (md := .any) (Q := Q) hs hQ n pss oss hk hds os _ a w.drew hp hB h
  rw [hl] at this
  exact this
end
end Go.Proofs.Ytihmmmodimionaa
/- Regions that draw their order and end in stores: what reckons and what loads is taken first, while what is loaded stands as it stood; then each of a few orders one by one. No program is in sight. -/
namespace Go.Proofs.Ytihmmmodimionaa
open Go.RowKit (Hid)

section
variable {P : Program} {ops : Array Oper} {Q : Exit → Act → World → Prop} {md : Region.Mode} {S : World → Prop} {U : Nat → Bool}
/-- whichever order: behind each operation but the late ones, S -/
def wpAnyU (P : Program) (md : Region.Mode) (ops : Array Oper) (Q : Exit → Act → World → Prop) (S : World → Prop) (U : Nat → Bool) : Nat → Array Bool → Act → World → Prop
  | 0, listed, a, w => Region.ready md ops listed = [] ∧ Q .normal a w
  | fuel + 1, listed, a, w => (Region.ready md ops listed = [] → Q .normal a w) ∧
    ∀ i ∈ Region.ready md ops listed, wpOp P ops Q i (fun a' w' => (U i = false → S w') ∧ wpAnyU P md ops Q S U fuel (listed.setIfInBounds i true) a' w') a w
theorem wpAny_of_U : ∀ (fuel : Nat) (listed : Array Bool) (a : Act) (w : World), wpAnyU P md ops Q S U fuel listed a w → wpAny P md ops Q fuel listed a w
  | 0, _, _, _, h => h
  | fuel + 1, _, _, _, h => ⟨h.1, fun i hi => wpOp_mono (fun a' w' h' => wpAny_of_U fuel _ a' w' h'.2) (h.2 i hi)⟩
theorem wpAnyU_first {i : Nat} {oi : Oper} {v : Value} (hi : ops[i]? = some oi) (hsel : ∀ (j : Nat) (o : Oper) cs b, ops[j]? = some o → o.op ≠ .select cs b)
    (hQ : ∀ c a w, Q (.panic c) (a.put oi.dst v) w → Q (.panic c) a w)
    (hU : ∀ j oj, ops[j]? = some oj → U j = true → ∃ e ∈ oj.after, Region.binds md e = true ∧ e.on = i) :
    ∀ (fuel : Nat) (listed : Array Bool) (a : Act) (w : World),
      (∀ j oj, ops[j]? = some oj → j ≠ i → listed.getD j true = false → (∀ e ∈ oj.after, Region.binds md e = true → e.on ≠ i) → oi.apart ops oj = true) →
      i ∈ Region.ready md ops listed → YieldsIf P ops S oi v a → S w →
      wpAnyU P md ops Q S U fuel (listed.setIfInBounds i true) (a.put oi.dst v) w → wpAnyU P md ops Q S U (fuel + 1) listed a w := by
  intro fuel
  induction fuel with
  | zero =>
    intro listed a w _ hr hy hS H
    refine ⟨fun h => (by rw [h] at hr; cases hr), fun j hj => ?_⟩
    by_cases hji : j = i
    · subst hji; exact hy.wpOp hi hS ⟨fun _ => hS, H⟩
    · have := ready_mono hj hji
      rw [H.1] at this
      cases this
  | succ fuel ih =>
    intro listed a w hfree hr hy hS H
    refine ⟨fun h => (by rw [h] at hr; cases hr), fun j hj => ?_⟩
    by_cases hji : j = i
    · subst hji; exact hy.wpOp hi hS ⟨fun _ => hS, H⟩
    · have h1 := H.2 j (ready_mono hj hji)
      obtain ⟨hjun, oj, hoj, hall⟩ := mem_ready.1 hj
      have hnot : ∀ e ∈ oj.after, Region.binds md e = true → e.on ≠ i := fun e he hb heq => by
        have h1 := hall e he hb
        have h0 := (mem_ready.1 hr).1
        rw [heq] at h1
        rcases Nat.lt_or_ge i listed.size with h' | h'
        · simp [h'] at h0 h1; rw [h0] at h1; cases h1
        · simp [Array.getElem?_eq_none h'] at h1
      have hUj : U j = false := by
        cases hu : U j with
        | false => rfl
        | true =>
          obtain ⟨e, he, hb, heq⟩ := hU j oj hoj hu
          exact absurd heq (hnot e he hb)
      have h2 := wpOp_putIf hoj (hfree j oj hoj hji hjun hnot) (fun cs b => hsel i oi cs b hi) (fun cs b => hsel j oj cs b hoj) hQ hy h1
      have hfree' : ∀ k ok, ops[k]? = some ok → k ≠ i → (listed.setIfInBounds j true).getD k true = false →
          (∀ e ∈ ok.after, Region.binds md e = true → e.on ≠ i) → oi.apart ops ok = true := fun k ok hk hki hun hno => by
        refine hfree k ok hk hki ?_ hno
        by_cases hjk : j = k
        · subst hjk; exact hjun
        · rw [getD_set_ne true hjk] at hun; exact hun
      refine wpOp_mono (fun a' w' h3 => ⟨fun _ => h3.2.1 hUj, ih (listed.setIfInBounds j true) a' w' hfree' (ready_mono hr (Ne.symm hji)) h3.1 (h3.2.1 hUj) ?_⟩) h2
      rw [Array.setIfInBounds_comm _ _ hji]
      exact h3.2.2
end

/-- a world of the class, or the first one -/
noncomputable def pin (S : World → Prop) (w x : World) : World := by classical exact if S x then x else w
theorem pin_in {S : World → Prop} {w : World} (h : S w) (x : World) : S (pin S w x) := by
  unfold pin
  split
  · assumption
  · exact h
theorem pin_of {S : World → Prop} {w x : World} (h : S x) : x = pin S w x := by
  unfold pin
  rw [if_pos h]
abbrev Pin (S : World → Prop) (w : World) : World → Prop := fun w' => ∃ x, w' = pin S w x
theorem pin_mem {S : World → Prop} {w x : World} (h : S x) : Pin S w x := ⟨x, pin_of h⟩

def calmL (o : Oper) : Bool := calmB o || (match o.op with | .load .. => true | _ => false)
theorem calmL_run {P : Program} {o : Oper} {ρ : Operand → Value} (w : World) (hp : calmL o = true) : (∃ u w', (execOp ρ o).run P w = .ok (.value u) w') ∨ ∃ x w', (execOp ρ o).run P w = .halt x w' := by
  unfold calmL at hp
  rw [Bool.or_eq_true] at hp
  refine light_run w ?_
  unfold lightB
  rw [Bool.or_eq_true]
  rcases hp with hp | hp
  · exact .inl hp
  · refine .inr ?_
    split at hp
    · rename_i ho; rw [ho]
    · cases hp
theorem yields_in {P : Program} {ops : Array Oper} {C : World → Prop} {o : Oper} {a : Act} {K : Act → Prop} (hp : calmL o = true) (hw : Region.wanted o (yielded ops a.tmps) = true) (h : o.quiet P a C K) :
    ∃ v, YieldsIf P ops C o v a ∧ K (a.put o.dst v) := by
  obtain ⟨v, h1, h2⟩ := h
  refine ⟨v, .inl ⟨hw, fun w hC => ?_⟩, h2⟩
  have h3 := h1 w hC
  unfold Oper.quietAt at h3
  rcases calmL_run (P := P) (ρ := a.eval) w hp with ⟨u, w', e⟩ | ⟨x, w', e⟩
  · rw [e] at h3 ⊢
    obtain ⟨rfl, rfl⟩ := h3
    rfl
  · rw [e] at h3
    cases h3

/-- one by one; behind each but the late ones, S -/
def wpListU (P : Program) (ops : Array Oper) (Q : Exit → Act → World → Prop) (S : World → Prop) : List (Oper × Bool) → Act → World → Prop
  | [], a, w => Q .normal a w
  | (o, u) :: os, a, w => if Region.wanted o (yielded ops a.tmps) = true then o.wp P a w (fun a' w' => (u = false → S w') ∧ wpListU P ops Q S os a' w') Q else (u = false → S w) ∧ wpListU P ops Q S os (a.put o.dst undef) w
inductive PickU (l : List Oper) (U : Nat → Bool) : List Nat → List (Oper × Bool) → Prop
  | nil : PickU l U [] []
  | cons {k : Nat} {o : Oper} {b : Bool} {ks : List Nat} {os : List (Oper × Bool)} : AtN l k o → U k = b → PickU l U ks os → PickU l U (k :: ks) ((o, b) :: os)
inductive PickAllU (l : List Oper) (U : Nat → Bool) : List (List Nat) → List (List (Oper × Bool)) → Prop
  | nil : PickAllU l U [] []
  | cons {ps : List Nat} {os : List (Oper × Bool)} {pss : List (List Nat)} {oss : List (List (Oper × Bool))} : PickU l U ps os → PickAllU l U pss oss → PickAllU l U (ps :: pss) (os :: oss)
theorem PickAllU.get {l : List Oper} {U : Nat → Bool} {pss : List (List Nat)} {oss : List (List (Oper × Bool))} (h : PickAllU l U pss oss) : ∀ ps ∈ pss, ∃ os ∈ oss, PickU l U ps os := by
  induction h with
  | nil => intro ps h; cases h
  | cons h1 _ ih =>
    intro ps hp
    rcases List.mem_cons.1 hp with rfl | hp
    · exact ⟨_, by simp, h1⟩
    · obtain ⟨os, ho, hk⟩ := ih ps hp
      exact ⟨os, by simp [ho], hk⟩
def EachU (p : List (Oper × Bool) → Prop) : List (List (Oper × Bool)) → Prop
  | [] => True
  | [x] => p x
  | x :: xs => p x ∧ EachU p xs
theorem EachU.one {p : List (Oper × Bool) → Prop} {x : List (Oper × Bool)} (h : p x) : EachU p [x] := h
theorem EachU.all {p : List (Oper × Bool) → Prop} : ∀ {xs : List (List (Oper × Bool))}, EachU p xs → ∀ x ∈ xs, p x := by
  intro xs
  induction xs with
  | nil => intro _ x hx; cases hx
  | cons y ys ih =>
    intro h x hx
    cases ys with
    | nil =>
      obtain rfl : x = y := by simpa using hx
      exact h
    | cons z zs =>
      rcases List.mem_cons.1 hx with rfl | hx
      · exact h.1
      · exact ih h.2 x hx
section
variable {P : Program} {md : Region.Mode} {l : List Oper} {Q : Exit → Act → World → Prop} {S : World → Prop} {U : Nat → Bool}
theorem wpAnyU_paths : ∀ (n : Nat) (listed : Array Bool) (pss : List (List Nat)) (a : Act) (w : World), pathsB md l.toArray n listed pss = true → (∀ ps ∈ pss, ∃ os, PickU l U ps os ∧ wpListU P l.toArray Q S os a w) → wpAnyU P md l.toArray Q S U n listed a w := by
  intro n
  induction n with
  | zero =>
    intro listed pss a w hB h
    simp only [pathsB, Bool.and_eq_true, List.isEmpty_iff] at hB
    obtain ⟨os, ho, hw⟩ := h [] (by simpa using hB.2)
    cases ho
    exact ⟨hB.1, hw⟩
  | succ n ih =>
    intro listed pss a w hB h
    unfold pathsB at hB
    by_cases he : (Region.ready md l.toArray listed).isEmpty = true
    · rw [if_pos he] at hB
      have he' := List.isEmpty_iff.1 he
      obtain ⟨os, ho, hw⟩ := h [] (by simpa using hB)
      cases ho
      exact ⟨fun _ => hw, fun i hi => by rw [he'] at hi; cases hi⟩
    · rw [if_neg he] at hB
      have he' : Region.ready md l.toArray listed ≠ [] := fun e => he (by rw [e]; rfl)
      refine ⟨fun e => absurd e he', fun i hi => ?_⟩
      have hb := List.all_eq_true.1 hB i hi
      rw [Bool.and_eq_true] at hb
      obtain ⟨hone, hb⟩ := hb
      obtain ⟨o, ho, _⟩ := (mem_ready.1 hi).2
      have key : ∀ ps ∈ (pss.filter fun p => p.head? == some i).map List.tail, ∃ os, PickU l U ps os ∧ wpListU P l.toArray Q S ((o, U i) :: os) a w := by
        intro ps hps
        obtain ⟨qs, hq, rfl⟩ := List.mem_map.1 hps
        obtain ⟨hq1, hq2⟩ := List.mem_filter.1 hq
        obtain ⟨os, ho', hw⟩ := h qs hq1
        cases ho' with
        | nil => simp at hq2
        | cons h0 hbu hp =>
          rename_i k o' b ks os
          have hk : k = i := by simpa using hq2
          subst hk
          have e1 : l.toArray[k]? = some o' := by simpa using h0.get
          rw [ho] at e1
          cases e1
          subst hbu
          exact ⟨os, hp, hw⟩
      generalize hps : (pss.filter fun p => p.head? == some i).map List.tail = qss at hone hb key
      unfold wpOp
      simp only [ho]
      unfold oneB at hone
      rw [Bool.or_eq_true] at hone
      unfold wpListU at key
      have hne : 1 ≤ qss.length := by
        rcases hone with h1 | h1
        · have := of_decide_eq_true h1; omega
        · rw [Bool.and_eq_true] at h1
          exact of_decide_eq_true h1.2
      obtain ⟨q0, hq0⟩ : ∃ q, q ∈ qss := by
        match qss, hne with
        | q :: _, _ => exact ⟨q, by simp⟩
      by_cases hw : Region.wanted o (yielded l.toArray a.tmps) = true
      · simp only [hw, if_true] at key ⊢
        left
        rcases hone with h1 | h1
        · have h1 := of_decide_eq_true h1
          obtain ⟨q, rfl⟩ : ∃ q, qss = [q] := by
            match qss, h1 with
            | [q], _ => exact ⟨q, rfl⟩
          obtain ⟨os, e2, e3⟩ := key q (by simp)
          exact Oper.wp_mono (fun a' w' h' => ⟨h'.1, ih _ _ a' w' hb (fun ps hp => by
            obtain rfl : ps = q := by simpa using hp
            exact ⟨os, e2, h'.2⟩)⟩) e3
        · rw [Bool.and_eq_true, ho] at h1
          simp only [Option.map_some, Option.getD_some] at h1
          obtain ⟨hl, h1⟩ := h1
          unfold Oper.wp at key ⊢
          rcases light_run (P := P) (ρ := a.eval) w hl with ⟨u, w', e⟩ | ⟨x, w', e⟩
          · rw [e] at key ⊢
            obtain ⟨os, _, e3⟩ := key q0 hq0
            refine ⟨e3.1, ih _ _ _ _ hb (fun ps hp => ?_)⟩
            obtain ⟨os, e2, e3⟩ := key ps hp
            exact ⟨os, e2, e3.2⟩
          · rw [e] at key ⊢
            obtain ⟨os, _, e3⟩ := key q0 hq0
            cases x <;> exact e3
      · simp only [hw, Bool.false_eq_true, if_false] at key ⊢
        obtain ⟨os, _, e3⟩ := key q0 hq0
        refine ⟨e3.1, ih _ _ _ _ hb (fun ps hp => ?_)⟩
        obtain ⟨os, e2, e3⟩ := key ps hp
        exact ⟨os, e2, e3.2⟩
/-- the late ones wait for number k -/
def waitsB (md : Region.Mode) (ops : Array Oper) (U : Nat → Bool) (k : Nat) : Bool := (List.range ops.size).all fun j => !U j || ((ops[j]?).map fun o => o.after.any fun e => Region.binds md e && decide (e.on = k)).getD true
def takenU (md : Region.Mode) (ops : Array Oper) (U : Nat → Bool) (n : Nat) (pss : List (List Nat)) : List Nat → Array Bool → Bool
  | [], listed => pathsB md ops n listed pss
  | k :: hs, listed => (Region.ready md ops listed).contains k && Region.free md ops listed k && ((ops[k]?).map calmL).getD false && waitsB md ops U k && takenU md ops U n pss hs (listed.setIfInBounds k true)
theorem wpAny_takenU {C : World → Prop} (hs : Region.noSelect l.toArray = true) (hQ : ∀ c a (d : Nat) v w, Q (.panic c) (Act.put a (some d) v) w → Q (.panic c) a w) (n : Nat) (pss : List (List Nat)) (oss : List (List (Oper × Bool))) (hk : PickAllU l U pss oss) : ∀ (hds : List Nat) (os : List Oper) (listed : Array Bool) (a : Act) (w : World), Picks l hds os → takenU md l.toArray U n pss hds listed = true → C w →
    wpQuiet P l.toArray C (fun a' => EachU (fun ks' => wpListU P l.toArray Q C ks' a' w) oss) os a → wpAnyU P md l.toArray Q C U (hds.length + n) listed a w := by
  intro hds
  induction hds with
  | nil =>
    intro os listed a w hp hB hC h
    cases hp
    rw [List.length_nil, Nat.zero_add]
    refine wpAnyU_paths n listed pss a w hB (fun ps hps => ?_)
    obtain ⟨os, ho, hp⟩ := hk.get ps hps
    exact ⟨os, hp, EachU.all h os ho⟩
  | cons k hds ih =>
    intro os listed a w hp hB hC h
    cases hp with
    | cons h0' hp =>
      rename_i o os
      have h0 : l.toArray[k]? = some o := by simpa using h0'.get
      simp only [takenU, Bool.and_eq_true, h0, Option.map_some, Option.getD_some] at hB
      obtain ⟨⟨⟨⟨hr, hf⟩, hpl⟩, hwt⟩, hB'⟩ := hB
      rw [List.length_cons, Nat.add_right_comm]
      have hU : ∀ j oj, l.toArray[j]? = some oj → U j = true → ∃ e ∈ oj.after, Region.binds md e = true ∧ e.on = k := by
        intro j oj hj hu
        unfold waitsB at hwt
        have hjl : j < l.toArray.size := by
          rcases Nat.lt_or_ge j l.toArray.size with h' | h'
          · exact h'
          · rw [Array.getElem?_eq_none h'] at hj; cases hj
        have h1 := List.all_eq_true.1 hwt j (List.mem_range.2 hjl)
        rw [hu, hj] at h1
        simp only [Bool.not_true, Bool.false_or, Option.map_some, Option.getD_some] at h1
        obtain ⟨e, he, h2⟩ := Array.any_eq_true'.1 h1
        rw [Bool.and_eq_true] at h2
        exact ⟨e, he, h2.1, of_decide_eq_true h2.2⟩
      unfold wpQuiet at h
      by_cases hw : Region.wanted o (yielded l.toArray a.tmps) = true
      · rw [if_pos hw] at h
        obtain ⟨v, hy, hK⟩ := yields_in hpl hw h
        exact wpAnyU_first h0 (Region.noSelect_spec hs) (fun c a w h => hput (hQ c) a _ _ w h) hU _ _ _ _ (Region.free_spec h0 hf) (by simpa using hr) hy hC (ih os _ _ w hp hB' hC hK)
      · rw [if_neg hw] at h
        exact wpAnyU_first h0 (Region.noSelect_spec hs) (fun c a w h => hput (hQ c) a _ _ w h) hU _ _ _ _ (Region.free_spec h0 hf) (by simpa using hr) (.inr ⟨by simpa using hw, rfl⟩) hC (ih os _ _ w hp hB' hC h)
theorem wp_region_U (S0 : World → Prop) {id : Nat} {a : Act} {w : World} (U : Nat → Bool) (n : Nat) (hds : List Nat) (pss : List (List Nat)) {os : List Oper} {oss : List (List (Oper × Bool))} (hm : P.follows .mixedOrders = true) (hl : hds.length + n = l.toArray.size) (hs : Region.noSelect l.toArray = true) (hB : takenU .any l.toArray U n pss hds (Array.replicate l.toArray.size false) = true) (hp : Picks l hds os) (hk : PickAllU l U pss oss)
    (hQ : ∀ c a (d : Nat) v w, Q (.panic c) (Act.put a (some d) v) w → Q (.panic c) a w) (hS : S0 w.drew) (h : wpQuiet P l.toArray (Pin S0 w.drew) (fun a' => EachU (fun ks' => wpListU P l.toArray Q (Pin S0 w.drew) ks' a' w.drew) oss) os a) : (Code.region id l.toArray true).wp P Q a w := by
  refine wp_region_any hm ?_
  have := wpAny_of_U _ _ _ _ (wpAny_takenU (P := P) (md := .any) (Q := Q) (C := Pin S0 w.drew) hs hQ n pss oss hk hds os _ a w.drew hp hB (pin_mem hS) h)
  rw [hl] at this
  exact this
end
/-! ### a tree of orders: what may be taken is taken, also behind an operation; what may come up in two ways forks -/
def Closed (md : Region.Mode) (ops : Array Oper) (listed : Array Bool) : Prop := ∀ (i : Nat) (o : Oper), ops[i]? = some o → listed.getD i true = true → ∀ e ∈ o.after, Region.binds md e = true → listed.getD e.on false = true
theorem getD_up {listed : Array Bool} {x j : Nat} (h : listed.getD x false = true) : (listed.setIfInBounds j true).getD x false = true := by
  by_cases e : j = x
  · subst e
    by_cases hj : j < listed.size
    · simp [hj]
    · simp [hj] at h
  · rw [Array.getD_eq_getD_getElem?, Array.getElem?_setIfInBounds_ne e, ← Array.getD_eq_getD_getElem?]
    exact h
theorem closed_set {md : Region.Mode} {ops : Array Oper} {listed : Array Bool} {j : Nat} (hc : Closed md ops listed) (hj : j ∈ Region.ready md ops listed) : Closed md ops (listed.setIfInBounds j true) := by
  intro i o hi hl e he hb
  obtain ⟨_, oj, hoj, hall⟩ := mem_ready.1 hj
  by_cases hij : j = i
  · subst hij
    rw [hi] at hoj
    cases hoj
    exact getD_up (hall e he hb)
  · rw [getD_set_ne true hij] at hl
    exact getD_up (hc i o hi hl e he hb)
theorem closed_start (md : Region.Mode) (ops : Array Oper) : Closed md ops (Array.replicate ops.size false) := by
  intro i o hi hl
  have h1 : i < ops.size := by
    rcases Nat.lt_or_ge i ops.size with h | h
    · exact h
    · rw [Array.getElem?_eq_none h] at hi; cases hi
  simp [h1] at hl
/-- operation j waits for number k, at once or through others -/
def chainB (md : Region.Mode) (ops : Array Oper) (k : Nat) : Nat → Nat → Bool
  | 0, _ => false
  | f + 1, j => ((ops[j]?).map fun o => o.after.any fun e => Region.binds md e && (decide (e.on = k) || chainB md ops k f e.on)).getD false
theorem chain_listed {md : Region.Mode} {ops : Array Oper} {listed : Array Bool} {k : Nat} (hc : Closed md ops listed) : ∀ (f j : Nat) (o : Oper), chainB md ops k f j = true → ops[j]? = some o → (∀ e ∈ o.after, Region.binds md e = true → listed.getD e.on false = true) → listed.getD k false = true := by
  intro f
  induction f with
  | zero => intro j o h; cases h
  | succ f ih =>
    intro j o h ho hall
    unfold chainB at h
    rw [ho] at h
    simp only [Option.map_some, Option.getD_some] at h
    obtain ⟨e, he, h2⟩ := Array.any_eq_true'.1 h
    rw [Bool.and_eq_true, Bool.or_eq_true] at h2
    have h3 := hall e he h2.1
    rcases h2.2 with h4 | h4
    · rw [← of_decide_eq_true h4]
      exact h3
    · cases hoe : ops[e.on]? with
      | none =>
        cases f with
        | zero => cases h4
        | succ f => unfold chainB at h4; rw [hoe] at h4; cases h4
      | some oe =>
        refine ih e.on oe h4 hoe (hc e.on oe hoe ?_)
        rcases Nat.lt_or_ge e.on listed.size with h' | h'
        · simp [h'] at h3 ⊢; exact h3
        · simp [Array.getElem?_eq_none h'] at h3
inductive RT where
  | done : RT
  | take (ks : List Nat) (t : RT) : RT
  | step (i : Nat) (t : RT) : RT
  | fork (i : Nat) (t : RT) (j : Nat) (u : RT) : RT
  | fork3 (i : Nat) (t : RT) (j : Nat) (u : RT) (k : Nat) (v : RT) : RT
inductive RO where
  | done : RO
  | take (os : List Oper) (t : RO) : RO
  | step (o : Oper) (u : Bool) (t : RO) : RO
  | fork (o : Oper) (u : Bool) (t : RO) (o' : Oper) (u' : Bool) (t' : RO) : RO
  | fork3 (o : Oper) (u : Bool) (t : RO) (o' : Oper) (u' : Bool) (t' : RO) (o'' : Oper) (u'' : Bool) (t'' : RO) : RO
inductive PickT (l : List Oper) (U : Nat → Bool) : RT → RO → Prop
  | done : PickT l U .done .done
  | take {ks : List Nat} {os : List Oper} {t : RT} {t' : RO} : Picks l ks os → PickT l U t t' → PickT l U (.take ks t) (.take os t')
  | step {i : Nat} {o : Oper} {b : Bool} {t : RT} {t' : RO} : AtN l i o → U i = b → PickT l U t t' → PickT l U (.step i t) (.step o b t')
  | fork {i j : Nat} {o o' : Oper} {b b' : Bool} {t u : RT} {t' u' : RO} : AtN l i o → U i = b → PickT l U t t' → AtN l j o' → U j = b' → PickT l U u u' → PickT l U (.fork i t j u) (.fork o b t' o' b' u')
  | fork3 {i j k : Nat} {o o' o'' : Oper} {b b' b'' : Bool} {t u v : RT} {t' u' v' : RO} : AtN l i o → U i = b → PickT l U t t' → AtN l j o' → U j = b' → PickT l U u u' → AtN l k o'' → U k = b'' → PickT l U v v' → PickT l U (.fork3 i t j u k v) (.fork3 o b t' o' b' u' o'' b'' v')
def RT.n : RT → Nat
  | .done => 0
  | .take ks t => ks.length + t.n
  | .step _ t => t.n + 1
  | .fork _ t _ _ => t.n + 1
  | .fork3 _ t _ _ _ _ => t.n + 1
def lateB (md : Region.Mode) (ops : Array Oper) (U : Nat → Bool) (k : Nat) : Bool := (List.range ops.size).all fun j => !U j || chainB md ops k ops.size j
def takesB (md : Region.Mode) (ops : Array Oper) (U : Nat → Bool) : List Nat → Array Bool → Bool
  | [], _ => true
  | k :: hs, listed => (Region.ready md ops listed).contains k && Region.free md ops listed k && ((ops[k]?).map calmL).getD false && lateB md ops U k && takesB md ops U hs (listed.setIfInBounds k true)
def listAll (ks : List Nat) (listed : Array Bool) : Array Bool := ks.foldl (fun l k => l.setIfInBounds k true) listed
def checkT (md : Region.Mode) (ops : Array Oper) (U : Nat → Bool) : RT → Bool → Array Bool → Bool
  | .done, _, listed => (Region.ready md ops listed).isEmpty
  | .take ks t, ok, listed => ok && takesB md ops U ks listed && checkT md ops U t ok (listAll ks listed)
  | .step i t, ok, listed => decide (Region.ready md ops listed = [i]) && checkT md ops U t (ok && !U i) (listed.setIfInBounds i true)
  | .fork i t j u, ok, listed => decide (Region.ready md ops listed = [i, j]) && decide (t.n = u.n) && checkT md ops U t (ok && !U i) (listed.setIfInBounds i true) && checkT md ops U u (ok && !U j) (listed.setIfInBounds j true)
  | .fork3 i t j u k v, ok, listed => decide (Region.ready md ops listed = [i, j, k]) && decide (t.n = u.n) && decide (t.n = v.n) && checkT md ops U t (ok && !U i) (listed.setIfInBounds i true) && checkT md ops U u (ok && !U j) (listed.setIfInBounds j true) && checkT md ops U v (ok && !U k) (listed.setIfInBounds k true)
def stepT (P : Program) (ops : Array Oper) (Q : Exit → Act → World → Prop) (C : World → Prop) (o : Oper) (u : Bool) (K : Act → World → Prop) (a : Act) (w : World) : Prop :=
  if Region.wanted o (yielded ops a.tmps) = true then o.wp P a w (fun a' w' => (u = false → C w') ∧ K a' w') Q else (u = false → C w) ∧ K (a.put o.dst undef) w
def wpT (P : Program) (ops : Array Oper) (Q : Exit → Act → World → Prop) (C : World → Prop) : RO → Act → World → Prop
  | .done, a, w => Q .normal a w
  | .take os t, a, w => wpQuiet P ops C (fun a' => wpT P ops Q C t a' w) os a
  | .step o u t, a, w => stepT P ops Q C o u (wpT P ops Q C t) a w
  | .fork o u t o' u' t', a, w => stepT P ops Q C o u (wpT P ops Q C t) a w ∧ stepT P ops Q C o' u' (wpT P ops Q C t') a w
  | .fork3 o u t o' u' t' o'' u'' t'', a, w => stepT P ops Q C o u (wpT P ops Q C t) a w ∧ stepT P ops Q C o' u' (wpT P ops Q C t') a w ∧ stepT P ops Q C o'' u'' (wpT P ops Q C t'') a w
section
variable {P : Program} {md : Region.Mode} {l : List Oper} {Q : Exit → Act → World → Prop} {C : World → Prop} {U : Nat → Bool}
theorem wpAnyU_firstC {i : Nat} {oi : Oper} {v : Value} (hi : l.toArray[i]? = some oi) (hsel : ∀ (j : Nat) (o : Oper) cs b, l.toArray[j]? = some o → o.op ≠ .select cs b)
    (hQ : ∀ c a w, Q (.panic c) (a.put oi.dst v) w → Q (.panic c) a w) (hU : lateB md l.toArray U i = true) :
    ∀ (fuel : Nat) (listed : Array Bool) (a : Act) (w : World), Closed md l.toArray listed →
      (∀ j oj, l.toArray[j]? = some oj → j ≠ i → listed.getD j true = false → (∀ e ∈ oj.after, Region.binds md e = true → e.on ≠ i) → oi.apart l.toArray oj = true) →
      i ∈ Region.ready md l.toArray listed → YieldsIf P l.toArray C oi v a → C w →
      wpAnyU P md l.toArray Q C U fuel (listed.setIfInBounds i true) (a.put oi.dst v) w → wpAnyU P md l.toArray Q C U (fuel + 1) listed a w := by
  intro fuel
  induction fuel with
  | zero =>
    intro listed a w _ _ hr hy hS H
    refine ⟨fun h => (by rw [h] at hr; cases hr), fun j hj => ?_⟩
    by_cases hji : j = i
    · subst hji; exact hy.wpOp hi hS ⟨fun _ => hS, H⟩
    · have := ready_mono hj hji
      rw [H.1] at this
      cases this
  | succ fuel ih =>
    intro listed a w hcl hfree hr hy hS H
    refine ⟨fun h => (by rw [h] at hr; cases hr), fun j hj => ?_⟩
    by_cases hji : j = i
    · subst hji; exact hy.wpOp hi hS ⟨fun _ => hS, H⟩
    · have h1 := H.2 j (ready_mono hj hji)
      obtain ⟨hjun, oj, hoj, hall⟩ := mem_ready.1 hj
      have hun : ¬ listed.getD i false = true := fun h => by
        have h0 := (mem_ready.1 hr).1
        rcases Nat.lt_or_ge i listed.size with h' | h'
        · simp [h'] at h0 h; rw [h0] at h; cases h
        · simp [Array.getElem?_eq_none h'] at h
      have hnot : ∀ e ∈ oj.after, Region.binds md e = true → e.on ≠ i := fun e he hb heq => hun (by rw [← heq]; exact hall e he hb)
      have hjl : j < l.toArray.size := by
        rcases Nat.lt_or_ge j l.toArray.size with h' | h'
        · exact h'
        · rw [Array.getElem?_eq_none h'] at hoj; cases hoj
      have hUj : U j = false := by
        cases hu : U j with
        | false => rfl
        | true =>
          have h2 := List.all_eq_true.1 hU j (List.mem_range.2 hjl)
          rw [hu] at h2
          simp only [Bool.not_true, Bool.false_or] at h2
          exact absurd (chain_listed hcl _ j oj h2 hoj hall) hun
      have h2 := wpOp_putIf hoj (hfree j oj hoj hji hjun hnot) (fun cs b => hsel i oi cs b hi) (fun cs b => hsel j oj cs b hoj) hQ hy h1
      have hfree' : ∀ k ok, l.toArray[k]? = some ok → k ≠ i → (listed.setIfInBounds j true).getD k true = false →
          (∀ e ∈ ok.after, Region.binds md e = true → e.on ≠ i) → oi.apart l.toArray ok = true := fun k ok hk hki hun hno => by
        refine hfree k ok hk hki ?_ hno
        by_cases hjk : j = k
        · subst hjk; exact hjun
        · rw [getD_set_ne true hjk] at hun; exact hun
      refine wpOp_mono (fun a' w' h3 => ⟨fun _ => h3.2.1 hUj, ih (listed.setIfInBounds j true) a' w' (closed_set hcl hj) hfree' (ready_mono hr (Ne.symm hji)) h3.1 (h3.2.1 hUj) ?_⟩) h2
      rw [Array.setIfInBounds_comm _ _ hji]
      exact h3.2.2
theorem wpAnyU_takes (hs : Region.noSelect l.toArray = true) (hQ : ∀ c a (d : Nat) v w, Q (.panic c) (Act.put a (some d) v) w → Q (.panic c) a w) (n : Nat) (K : Act → World → Prop) : ∀ (ks : List Nat) (os : List Oper) (listed : Array Bool) (a : Act) (w : World), Picks l ks os → takesB md l.toArray U ks listed = true → Closed md l.toArray listed → C w →
    (∀ a', K a' w → Closed md l.toArray (listAll ks listed) → wpAnyU P md l.toArray Q C U n (listAll ks listed) a' w) →
    wpQuiet P l.toArray C (fun a' => K a' w) os a → wpAnyU P md l.toArray Q C U (ks.length + n) listed a w := by
  intro ks
  induction ks with
  | nil =>
    intro os listed a w hp hB hcl hC hk h
    cases hp
    rw [List.length_nil, Nat.zero_add]
    exact hk a h hcl
  | cons k ks ih =>
    intro os listed a w hp hB hcl hC hk h
    cases hp with
    | cons h0' hp =>
      rename_i o os
      have h0 : l.toArray[k]? = some o := by simpa using h0'.get
      simp only [takesB, Bool.and_eq_true, h0, Option.map_some, Option.getD_some] at hB
      obtain ⟨⟨⟨⟨hr, hf⟩, hpl⟩, hwt⟩, hB'⟩ := hB
      have hr' : k ∈ Region.ready md l.toArray listed := by simpa using hr
      rw [List.length_cons, Nat.add_right_comm]
      unfold wpQuiet at h
      by_cases hw : Region.wanted o (yielded l.toArray a.tmps) = true
      · rw [if_pos hw] at h
        obtain ⟨v, hy, hK⟩ := yields_in hpl hw h
        exact wpAnyU_firstC h0 (Region.noSelect_spec hs) (fun c a w h => hput (hQ c) a _ _ w h) hwt _ _ _ _ hcl (Region.free_spec h0 hf) hr' hy hC (ih os _ _ w hp hB' (closed_set hcl hr') hC hk hK)
      · rw [if_neg hw] at h
        exact wpAnyU_firstC h0 (Region.noSelect_spec hs) (fun c a w h => hput (hQ c) a _ _ w h) hwt _ _ _ _ hcl (Region.free_spec h0 hf) hr' (.inr ⟨by simpa using hw, rfl⟩) hC (ih os _ _ w hp hB' (closed_set hcl hr') hC hk h)
theorem stepT_op {o : Oper} {i : Nat} {K K' : Act → World → Prop} {a : Act} {w : World} (ho : l.toArray[i]? = some o) (hk : ∀ a' w', (U i = false → C w') → K a' w' → K' a' w') (h : stepT P l.toArray Q C o (U i) K a w) : wpOp P l.toArray Q i (fun a' w' => (U i = false → C w') ∧ K' a' w') a w := by
  unfold wpOp
  simp only [ho]
  unfold stepT at h
  by_cases hw : Region.wanted o (yielded l.toArray a.tmps) = true
  · rw [if_pos hw] at h
    simp only [hw, if_true]
    exact .inl (Oper.wp_mono (fun a' w' h' => ⟨h'.1, hk _ _ h'.1 h'.2⟩) h)
  · rw [if_neg hw] at h
    simp only [hw, Bool.false_eq_true, if_false]
    exact ⟨h.1, hk _ _ h.1 h.2⟩
theorem wpAnyU_tree (hs : Region.noSelect l.toArray = true) (hQ : ∀ c a (d : Nat) v w, Q (.panic c) (Act.put a (some d) v) w → Q (.panic c) a w) : ∀ (t : RT) (t' : RO) (ok : Bool) (listed : Array Bool) (a : Act) (w : World), PickT l U t t' → checkT md l.toArray U t ok listed = true → Closed md l.toArray listed → (ok = true → C w) → wpT P l.toArray Q C t' a w → wpAnyU P md l.toArray Q C U t.n listed a w := by
  intro t
  induction t with
  | done =>
    intro t' ok listed a w hp hB hcl hC h
    cases hp
    exact ⟨List.isEmpty_iff.1 hB, h⟩
  | take ks t ih =>
    intro t' ok listed a w hp hB hcl hC h
    cases hp with
    | take hk hp =>
      simp only [checkT, Bool.and_eq_true] at hB
      exact wpAnyU_takes hs hQ t.n _ ks _ listed a w hk hB.1.2 hcl (hC hB.1.1) (fun a' h' hcl' => ih _ ok _ _ _ hp hB.2 hcl' hC h') h
  | step i t ih =>
    intro t' ok listed a w hp hB hcl hC h
    cases hp with
    | step h0 hb hp =>
      subst hb
      have ho := (show l.toArray[i]? = some _ by simpa using h0.get)
      simp only [checkT, Bool.and_eq_true, decide_eq_true_eq] at hB
      refine ⟨fun h1 => (by rw [hB.1] at h1; cases h1), fun j hj => ?_⟩
      have hj' := hj
      rw [hB.1] at hj
      obtain rfl : j = i := by simpa using hj
      refine stepT_op ho (fun a' w' h1 h2 => ih _ _ _ _ _ hp hB.2 (closed_set hcl hj') (fun hk => ?_) h2) h
      rw [Bool.and_eq_true] at hk
      exact h1 (by simpa using hk.2)
  | fork i t j u ih1 ih2 =>
    intro t' ok listed a w hp hB hcl hC h
    cases hp with
    | fork h0 hb hp h0' hb' hp' =>
      subst hb hb'
      have ho := (show l.toArray[i]? = some _ by simpa using h0.get)
      have ho' := (show l.toArray[j]? = some _ by simpa using h0'.get)
      simp only [checkT, Bool.and_eq_true, decide_eq_true_eq] at hB
      obtain ⟨⟨⟨hr, hn⟩, hB1⟩, hB2⟩ := hB
      refine ⟨fun h1 => (by rw [hr] at h1; cases h1), fun k hk => ?_⟩
      have hk' := hk
      rw [hr] at hk
      rcases (by simpa using hk : k = i ∨ k = j) with rfl | rfl
      · refine stepT_op ho (fun a' w' h1 h2 => ih1 _ _ _ _ _ hp hB1 (closed_set hcl hk') (fun hq => ?_) h2) h.1
        rw [Bool.and_eq_true] at hq
        exact h1 (by simpa using hq.2)
      · refine stepT_op ho' (fun a' w' h1 h2 => ?_) h.2
        have := ih2 _ _ _ _ _ hp' hB2 (closed_set hcl hk') (fun hq => by
          rw [Bool.and_eq_true] at hq
          exact h1 (by simpa using hq.2)) h2
        rw [← hn] at this
        exact this
  | fork3 i t j u k v ih1 ih2 ih3 =>
    intro t' ok listed a w hp hB hcl hC h
    cases hp with
    | fork3 h0 hb hp h0' hb' hp' h0'' hb'' hp'' =>
      subst hb hb' hb''
      have ho := (show l.toArray[i]? = some _ by simpa using h0.get)
      have ho' := (show l.toArray[j]? = some _ by simpa using h0'.get)
      have ho'' := (show l.toArray[k]? = some _ by simpa using h0''.get)
      simp only [checkT, Bool.and_eq_true, decide_eq_true_eq] at hB
      obtain ⟨⟨⟨⟨⟨hr, hn⟩, hn'⟩, hB1⟩, hB2⟩, hB3⟩ := hB
      refine ⟨fun h1 => (by rw [hr] at h1; cases h1), fun q hk => ?_⟩
      have hk' := hk
      rw [hr] at hk
      rcases (by simpa using hk : q = i ∨ q = j ∨ q = k) with rfl | rfl | rfl
      · refine stepT_op ho (fun a' w' h1 h2 => ih1 _ _ _ _ _ hp hB1 (closed_set hcl hk') (fun hq => ?_) h2) h.1
        rw [Bool.and_eq_true] at hq
        exact h1 (by simpa using hq.2)
      · refine stepT_op ho' (fun a' w' h1 h2 => ?_) h.2.1
        have := ih2 _ _ _ _ _ hp' hB2 (closed_set hcl hk') (fun hq => by
          rw [Bool.and_eq_true] at hq
          exact h1 (by simpa using hq.2)) h2
        rw [← hn] at this
        exact this
      · refine stepT_op ho'' (fun a' w' h1 h2 => ?_) h.2.2
        have := ih3 _ _ _ _ _ hp'' hB3 (closed_set hcl hk') (fun hq => by
          rw [Bool.and_eq_true] at hq
          exact h1 (by simpa using hq.2)) h2
        rw [← hn'] at this
        exact this
theorem wp_region_tree (S0 : World → Prop) {id : Nat} {a : Act} {w : World} (U : Nat → Bool) (t : RT) {t' : RO} (hm : P.follows .mixedOrders = true) (hl : t.n = l.toArray.size) (hs : Region.noSelect l.toArray = true) (hB : checkT .any l.toArray U t true (Array.replicate l.toArray.size false) = true) (hp : PickT l U t t')
    (hQ : ∀ c a (d : Nat) v w, Q (.panic c) (Act.put a (some d) v) w → Q (.panic c) a w) (hS : S0 w.drew) (h : wpT P l.toArray Q (Pin S0 w.drew) t' a w.drew) : (Code.region id l.toArray true).wp P Q a w := by
  refine wp_region_any hm ?_
  have := wpAny_of_U _ _ _ _ (wpAnyU_tree (P := P) (md := .any) (Q := Q) (C := Pin S0 w.drew) hs hQ t t' true _ a w.drew hp hB (closed_start _ _) (fun _ => pin_mem hS) h)
  rw [hl] at this
  exact this
/-- one step: what follows is a letter -/
theorem stepT_walk {o : Oper} {u : Bool} {K : Act → World → Prop} {a : Act} {w : World} {ops : Array Oper} (hw : Region.wanted o (yielded ops a.tmps) = true) (h : ∀ K' : Act → World → Prop, Hid (∀ a' w', (u = false → C w') → K a' w' → K' a' w') → o.wp P a w K' Q) : stepT P ops Q C o u K a w := by
  unfold stepT
  rw [if_pos hw]
  exact h _ (fun a' w' h1 h2 => ⟨h1, h2⟩)
theorem wpT_done {ops : Array Oper} {a : Act} {w : World} (h : Q .normal a w) : wpT P ops Q C .done a w := h
theorem wpT_take {ops : Array Oper} {os : List Oper} {t : RO} {a : Act} {w : World} (h : wpQuiet P ops C (fun a' => wpT P ops Q C t a' w) os a) : wpT P ops Q C (.take os t) a w := h
theorem wpT_step {ops : Array Oper} {o : Oper} {u : Bool} {t : RO} {a : Act} {w : World} (hg : o.guard = none) (h : ∀ K' : Act → World → Prop, Hid (∀ a' w', (u = false → C w') → wpT P ops Q C t a' w' → K' a' w') → o.wp P a w K' Q) : wpT P ops Q C (.step o u t) a w :=
  stepT_walk (by simp [Region.wanted, hg]) h
theorem wpT_fork3 {ops : Array Oper} {o o' o'' : Oper} {u u' u'' : Bool} {t t' t'' : RO} {a : Act} {w : World} (h : wpT P ops Q C (.step o u t) a w) (h' : wpT P ops Q C (.step o' u' t') a w) (h'' : wpT P ops Q C (.step o'' u'' t'') a w) : wpT P ops Q C (.fork3 o u t o' u' t' o'' u'' t'') a w := ⟨h, h', h''⟩
theorem wpT_fork {ops : Array Oper} {o o' : Oper} {u u' : Bool} {t t' : RO} {a : Act} {w : World} (h : wpT P ops Q C (.step o u t) a w) (h' : wpT P ops Q C (.step o' u' t') a w) : wpT P ops Q C (.fork o u t o' u' t') a w := ⟨h, h'⟩
end
end Go.Proofs.Ytihmmmodimionaa
namespace Go.Proofs.Ytihmmmodimionaa.Lx
open Go.RowKit

abbrev RdR (w : World) (R : Nat) (b : ByteArray) (l c : Int) : Prop := w.heap[R]? = some (.cells #[.string b, .int .i64 l, .int .i64 c] 69 (0, 0))

set_option maxHeartbeats 1000000 in
theorem take_any (R : Nat) (b : ByteArray) (n : Nat) (l c : Int) (w : World) (hn : n ≤ b.size) (hl : 1 ≤ l) (hl2 : l + n ≤ 1000000) (hc : 1 ≤ c) (hc2 : c + n ≤ 1000000) (hr : RdR w R b l c) :
    Calls Try.prog 53 #[.pointer (some ⟨R, 0, none⟩), .int .i64 n] w fun e w' => e = .returned (.string (b.extract 0 n)) ∧ Only R w w' ∧ RdR w' R (b.extract n b.size) (adv ((T b).take n) l c).1 (adv ((T b).take n) l c).2 := by
  have p0 := cell_heap (j := 0) hr rfl
  have f0 := frozen_heap (j := 0) hr
  have HR := hide hr
  clear hr
  go_enter Try.func53, Try.ntmps53
  go_wp2
  have he := T_head b n
  have hes : (b.extract 0 n).size = n := by rw [size_T, he, List.length_take, T_len]; omega
  generalize hg1 : b.extract 0 n = e at *
  generalize hg2 : b.extract n b.size = rest at *
  have HG1 := hide hg1
  have HG2 := hide hg2
  clear hg1 hg2
  have HE := hide he
  have HS := hide hes
  clear he hes
  go_loopw [23] (fun j wr => ∃ k : Nat, k ≤ n ∧ j = .int .i64 k ∧ Only R w wr ∧ RdR wr R rest (adv ((T e).take k) l c).1 (adv ((T e).take k) l c).2) (fun j _ => n - (intOf j).toNat)
  case atStart => exact ⟨0, Nat.zero_le _, rfl, only_set (only_refl _ _) _ _, heap_set HR.out⟩
  case round =>
    obtain ⟨k, hk, rfl, ho, hrd⟩ := hrel
    have hbd := adv_bd ((T e).take k) l c hl hc
    rw [List.length_take] at hbd
    generalize hadv : adv ((T e).take k) l c = a at *
    obtain ⟨a1, a2⟩ := a
    obtain ⟨b1, b2, b3, b4⟩ := hbd
    have HA := hide hadv
    clear hadv
    simp only at b1 b2 b3 b4 hrd
    have q1 := cell_heap (j := 1) hrd rfl
    have q2 := cell_heap (j := 2) hrd rfl
    have g1 := frozen_heap (j := 1) hrd
    have g2 := frozen_heap (j := 2) hrd
    have HO := hide ho
    have HRD := hide hrd
    clear ho hrd
    have b5 : a1 ≤ l + k := by omega
    have b6 : a2 ≤ c + k := by omega
    clear b2 b4
    by_cases hlt : k < n
    · have hke : k < e.size := by rw [HS.out]; exact hlt
      have hsn := hide (adv_snoc ((T e).take k) e[k] l c)
      have ht := hide (T_take e k hke)
      by_cases h3 : e[k] = 10
      · have h3' : ((e[k].toNat : Int) == 10) = true := beq_it (by have := (eq10 _).1 h3; omega)
        have HH := hide h3
        clear h3
        go_wp2
        go_roundw
        case rel =>
          refine ⟨k + 1, by omega, by go_num, only_set (only_set (only_set HO.out _ _) _ _) _ _, ?_⟩
          rw [ht.out, hsn.out, if_pos HH.out, HA.out]
          exact heap_set (heap_set (heap_set HRD.out))
        case measure => simp [intOf]; omega
      · have h3' : ((e[k].toNat : Int) == 10) = false := beq_if (by intro e'; exact h3 ((eq10 _).2 (by omega)))
        have HH := hide h3
        clear h3
        go_wp2
        go_roundw
        case rel =>
          refine ⟨k + 1, by omega, by go_num, only_set HO.out _ _, ?_⟩
          rw [ht.out, hsn.out, if_neg HH.out, HA.out]
          exact heap_set HRD.out
        case measure => simp [intOf]; omega
    · have HK : Hid (k = n) := by show _ = _; omega
      go_wp2
      go_ret
      refine ⟨by rw [HG1.out]; rfl, HO.out, ?_⟩
      rw [HG2.out]
      rw [← HE.out, ← List.take_of_length_le (i := k) (show (T e).length ≤ k by rw [T_len, HS.out]; omega), HA.out]
      exact HRD.out
end Go.Proofs.Ytihmmmodimionaa.Lx
namespace Go.Proofs.Ytihmmmodimionaa.Lx
open Go.RowKit

theorem is10_at (b : ByteArray) (k : Nat) (h : k < b.size) : is10 ((T b).drop k) = ((b[k].toNat : Int) == 10) := by
  rw [T_drop b k h]
  unfold is10
  rw [Bool.eq_iff_iff]
  simp only [List.head?_cons, beq_iff_eq, Option.some.injEq]
  rw [eq10]; omega
theorem isEnd_at (b : ByteArray) (k : Nat) (h : k < b.size) : isEnd ((T b).drop k) = (decide (0 ≤ Lib.indexByte endB b[k]) || Lib.hasPrefix ((T b).drop k) [47, 42]) := by
  rw [T_drop b k h]
  rfl
theorem firstN_at (p : List UInt8 → Bool) (b : ByteArray) (k : Nat) (h : k < b.size) : firstN p ((T b).drop k) = if p ((T b).drop k) then 0 else firstN p ((T b).drop (k + 1)) + 1 := by
  rw [T_drop b k h, firstN]

/-- token$1: is a byte a 0A? (V: where the captured reader stands) -/
theorem clos_any (R V : Nat) (b : ByteArray) (i : Nat) (w : World) (hi : i < b.size) (hs : b.size ≤ 1000000) (hv : w.cell? ⟨V, 0, none⟩ = some (.pointer (some ⟨R, 0, none⟩))) (hr : w.cell? ⟨R, 0, none⟩ = some (.string b)) :
    Calls Try.prog 55 #[.int .i64 i, .pointer (some ⟨V, 0, none⟩)] w fun e w' => e = .returned (.bool (is10 ((T b).drop i))) ∧ w = w' := by
  have HX := hide (is10_at b i hi)
  go_enter Try.func55, Try.ntmps55
  go_wp2
  go_ret
  exact ⟨by rw [HX.out]; rfl, rfl⟩

theorem ends_any (R : Nat) (b : ByteArray) (i : Nat) (w : World) (hi : i < b.size) (hs : b.size ≤ 1000000) (hr : w.cell? ⟨R, 0, none⟩ = some (.string b)) :
    Calls Try.prog 59 #[.pointer (some ⟨R, 0, none⟩), .int .i64 i] w fun e w' => e = .returned (.bool (isEnd ((T b).drop i))) ∧ w = w' := by
  have HX := hide (isEnd_at b i hi)
  have h1 := Try.strings_IndexByte ⟨#[32, 10, 123, 125, 59, 91, 93, 34, 35]⟩ b[i].toNat w
  have e1 : Lib.indexByte (⟨#[32, 10, 123, 125, 59, 91, 93, 34, 35]⟩ : ByteArray).data.toList ((b[i].toNat : Int)).toNat.toUInt8 = Lib.indexByte endB b[i] := by
    congr 1
    simp
  have h2 := Try.strings_HasPrefix (b.extract i b.size) ⟨#[47, 42]⟩ w
  have e2 : Lib.hasPrefix (b.extract i b.size).data.toList (⟨#[47, 42]⟩ : ByteArray).data.toList = Lib.hasPrefix ((T b).drop i) [47, 42] := by
    rw [← T_tail]; rfl
  rw [e1] at h1
  rw [e2] at h2
  generalize Lib.indexByte endB b[i] = r at *
  generalize Lib.hasPrefix ((T b).drop i) [47, 42] = q at *
  have H1 := hide h1
  have H2 := hide h2
  clear h1 h2 e1 e2
  by_cases hr0 : 0 ≤ r
  · go_enter Try.func59, Try.ntmps59
    go_wp2_with fail
    refine H1.out.mono ?_; rintro e w1 ⟨rfl, rfl⟩
    go_wp2_with fail
    go_ret
    exact ⟨by rw [HX.out, decide_eq_true hr0]; rfl, rfl⟩
  · have hd : decide (0 ≤ r) = false := by simpa using hr0
    go_enter Try.func59, Try.ntmps59
    go_wp2_with fail
    refine H1.out.mono ?_; rintro e w1 ⟨rfl, rfl⟩
    go_wp2_with fail
    refine H2.out.mono ?_; rintro e w2 ⟨rfl, rfl⟩
    go_wp2_with fail
    go_ret
    exact ⟨by rw [HX.out, hd]; rfl, rfl⟩

set_option maxHeartbeats 1000000 in
theorem until1_any (R V : Nat) (b : ByteArray) (w : World) (hs : b.size ≤ 1000000) (hv : w.cell? ⟨V, 0, none⟩ = some (.pointer (some ⟨R, 0, none⟩))) (hr : w.cell? ⟨R, 0, none⟩ = some (.string b)) :
    Calls Try.prog 54 #[.pointer (some ⟨R, 0, none⟩), .func (.func 55) #[] #[.pointer (some ⟨V, 0, none⟩)]] w fun e w' => e = .returned (.int .i64 (firstN is10 (T b))) ∧ w = w' := by
  have HC := hide (fun i hi => clos_any R V b i w hi hs hv hr)
  go_enter Try.func54, Try.ntmps54
  go_wp2
  go_loop [5] (fun j => ∃ k : Nat, k ≤ b.size ∧ j = .int .i64 k ∧ firstN is10 (T b) = k + firstN is10 ((T b).drop k)) (fun j => b.size - (intOf j).toNat)
  case atStart => exact ⟨0, Nat.zero_le _, rfl, by simp⟩
  case round =>
    obtain ⟨k, hk, rfl, hf⟩ := hrel
    have HF := hide hf
    clear hf
    by_cases hlt : k < b.size
    · have hcl := HC.out k hlt
      have HN := hide (firstN_at is10 b k hlt)
      cases hx : is10 ((T b).drop k)
      · rw [hx] at hcl
        have HX := hide hx
        have HCl := hide hcl
        clear hcl hx
        go_wp2_with fail
        refine HCl.out.mono ?_; rintro e w1 ⟨rfl, rfl⟩
        go_wp2_with fail
        go_round
        case rel => exact ⟨k + 1, by omega, by go_num, by rw [HF.out, HN.out, HX.out]; simp; omega⟩
        case measure => simp [intOf]; omega
      · rw [hx] at hcl
        have HX := hide hx
        have HCl := hide hcl
        clear hcl hx
        go_wp2_with fail
        refine HCl.out.mono ?_; rintro e w1 ⟨rfl, rfl⟩
        go_wp2_with fail
        go_ret
        exact ⟨ret_int (by rw [HF.out, HN.out, HX.out]; simp), rfl⟩
    · go_wp2_with fail
      go_ret
      exact ⟨ret_int (by rw [HF.out, List.drop_eq_nil_of_le (by rw [T_len]; omega)]; simp [firstN]), rfl⟩

set_option maxHeartbeats 1000000 in
theorem until2_any (R : Nat) (b : ByteArray) (w : World) (hs : b.size ≤ 1000000) (hr : w.cell? ⟨R, 0, none⟩ = some (.string b)) :
    Calls Try.prog 54 #[.pointer (some ⟨R, 0, none⟩), .func (.func 59) #[.pointer (some ⟨R, 0, none⟩)] #[]] w fun e w' => e = .returned (.int .i64 (firstN isEnd (T b))) ∧ w = w' := by
  have HC := hide (fun i hi => ends_any R b i w hi hs hr)
  go_enter Try.func54, Try.ntmps54
  go_wp2
  go_loop [5] (fun j => ∃ k : Nat, k ≤ b.size ∧ j = .int .i64 k ∧ firstN isEnd (T b) = k + firstN isEnd ((T b).drop k)) (fun j => b.size - (intOf j).toNat)
  case atStart => exact ⟨0, Nat.zero_le _, rfl, by simp⟩
  case round =>
    obtain ⟨k, hk, rfl, hf⟩ := hrel
    have HF := hide hf
    clear hf
    by_cases hlt : k < b.size
    · have hcl := HC.out k hlt
      have HN := hide (firstN_at isEnd b k hlt)
      cases hx : isEnd ((T b).drop k)
      · rw [hx] at hcl
        have HX := hide hx
        have HCl := hide hcl
        clear hcl hx
        go_wp2_with fail
        refine HCl.out.mono ?_; rintro e w1 ⟨rfl, rfl⟩
        go_wp2_with fail
        go_round
        case rel => exact ⟨k + 1, by omega, by go_num, by rw [HF.out, HN.out, HX.out]; simp; omega⟩
        case measure => simp [intOf]; omega
      · rw [hx] at hcl
        have HX := hide hx
        have HCl := hide hcl
        clear hcl hx
        go_wp2_with fail
        refine HCl.out.mono ?_; rintro e w1 ⟨rfl, rfl⟩
        go_wp2_with fail
        go_ret
        exact ⟨ret_int (by rw [HF.out, HN.out, HX.out]; simp), rfl⟩
    · go_wp2_with fail
      go_ret
      exact ⟨ret_int (by rw [HF.out, List.drop_eq_nil_of_le (by rw [T_len]; omega)]; simp [firstN]), rfl⟩
end Go.Proofs.Ytihmmmodimionaa.Lx
