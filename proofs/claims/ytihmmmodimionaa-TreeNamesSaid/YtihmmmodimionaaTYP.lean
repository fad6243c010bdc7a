/- What write writes, in plain words: how much room it takes; statement by statement. -/
import Derived.Test.YtihmmmodimionaaTW
import Derived.Shelf.Strings.Repeat
namespace Go.Proofs.Ytihmmmodimionaa.Tr
open Go.RowKit Go.Proofs.Ytihmmmodimionaa Go.Proofs.Ytihmmmodimionaa.Lx

def Fo.nodes : Fo → Nat
  | .nil => 0
  | .cons _ _ _ K R => K.nodes + R.nodes + 1
def wsW : List ByteArray → Nat
  | [] => 0
  | w :: ws => w.size + 3 + wsW ws
def wtF : Fo → Nat
  | .nil => 0
  | .cons ws _ _ K R => wsW ws + 300 + wtF K + wtF R
def WB : Fo → Prop
  | .nil => True
  | .cons ws _ _ K R => (∀ w ∈ ws, w.size < 4294967281) ∧ WB K ∧ WB R
def pre (o : List UInt8) (r : Option (List UInt8)) : Option (List UInt8) := r.map fun q => o ++ q
def preQ (o : List (List UInt8)) (r : Option (List (List UInt8))) : Option (List (List UInt8)) := r.map fun q => o ++ q
theorem pre_nil (r : Option (List UInt8)) : pre [] r = r := by cases r <;> rfl
theorem pre_pre (a b : List UInt8) (r : Option (List UInt8)) : pre a (pre b r) = pre (a ++ b) r := by cases r <;> simp [pre]
theorem preQ_nil (r : Option (List (List UInt8))) : preQ [] r = r := by cases r <;> rfl
theorem len_wt : ∀ F : Fo, F.len ≤ wtF F
  | .nil => by simp [Fo.len]
  | .cons ws _ _ K R => by
    have := len_wt R
    show R.len + 1 ≤ wsW ws + 300 + wtF K + wtF R
    omega
theorem quoteT_len {w q : List UInt8} (h : quoteT w = some q) : q.length ≤ w.length + 2 := by
  unfold quoteT at h
  split at h
  · cases h
  · split at h
    · injection h with h; subst h; simp
    · injection h with h; subst h; omega
def lenQ (qs : List (List UInt8)) : Nat := (qs.map fun q => q.length + 1).sum
theorem lenQ_app (a : List (List UInt8)) (q : List UInt8) : lenQ (a ++ [q]) = lenQ a + q.length + 1 := by simp [lenQ]; omega
theorem joinTail_le : ∀ qs : List (List UInt8), (Lib.joinTail [32] qs).length = lenQ qs
  | [] => rfl
  | q :: qs => by
    have := joinTail_le qs
    simp only [Lib.joinTail, lenQ, List.map_cons, List.flatten_cons, List.length_append, List.sum_cons, List.length_cons, List.length_nil] at this ⊢
    omega
theorem join_le (qs : List (List UInt8)) : (Lib.join qs [32]).length ≤ lenQ qs := by
  cases qs with
  | nil => simp [Lib.join_nil]
  | cons q qs =>
    rw [Lib.join_cons, List.length_append, joinTail_le]
    simp only [lenQ, List.map_cons, List.sum_cons]
    omega
theorem quotes_none {ws rest : List ByteArray} {w : ByteArray} {qs : List (List UInt8)} (h : quotesT ws = preQ qs (quotesT (w :: rest))) (hq : quoteT (T w) = none) : quotesT ws = none := by
  rw [h, quotesT, hq]; rfl
theorem quotes_some {ws rest : List ByteArray} {w : ByteArray} {qs : List (List UInt8)} {q : List UInt8} (h : quotesT ws = preQ qs (quotesT (w :: rest))) (hq : quoteT (T w) = some q) : quotesT ws = preQ (qs ++ [q]) (quotesT rest) := by
  rw [h, quotesT, hq]
  cases quotesT rest <;> simp [preQ]
theorem write_bad {d : Nat} {ws : List ByteArray} {ps : List (Int × Int)} {blk : Bool} {K R : Fo} (h : ws.length = 0 ∨ (blk = false ∧ K.len ≠ 0) ∨ (blk = true ∧ 32 ≤ d)) : writeF d (.cons ws ps blk K R) = none := by
  rw [writeF, if_pos h]
theorem write_noq {d : Nat} {ws : List ByteArray} {ps : List (Int × Int)} {blk : Bool} {K R : Fo} (h : quotesT ws = none) : writeF d (.cons ws ps blk K R) = none := by
  rw [writeF, h]
  split <;> rfl
theorem write_leaf {d : Nat} {ws : List ByteArray} {ps : List (Int × Int)} {K R : Fo} {qs : List (List UInt8)} (h0 : ws.length ≠ 0) (hK : K.len = 0) (h : quotesT ws = some qs) : writeF d (.cons ws ps false K R) = pre (indT d ++ Lib.join qs [32] ++ [59, 10]) (writeF d R) := by
  rw [writeF, h, if_neg (by
    rintro (h1 | ⟨_, h1⟩ | ⟨h1, _⟩)
    · exact h0 h1
    · exact h1 hK
    · cases h1)]
  cases writeF d R <;> rfl
theorem write_kno {d : Nat} {ws : List ByteArray} {ps : List (Int × Int)} {K R : Fo} (h : writeF (d + 1) K = none) : writeF d (.cons ws ps true K R) = none := by
  rw [writeF, h]
  split
  · rfl
  · cases quotesT ws <;> rfl
theorem write_blk {d : Nat} {ws : List ByteArray} {ps : List (Int × Int)} {K R : Fo} {qs : List (List UInt8)} {k : List UInt8} (h0 : ws.length ≠ 0) (hd : d < 32) (h : quotesT ws = some qs) (hk : writeF (d + 1) K = some k) : writeF d (.cons ws ps true K R) = pre (indT d ++ Lib.join qs [32] ++ [32, 123, 10] ++ k ++ (indT d ++ [125, 10])) (writeF d R) := by
  rw [writeF, h, hk, if_neg (by
    rintro (h1 | ⟨h1, _⟩ | ⟨_, h1⟩)
    · exact h0 h1
    · cases h1
    · omega)]
  cases writeF d R <;> rfl
theorem quotes_len : ∀ (ws : List ByteArray) (qs : List (List UInt8)), quotesT ws = some qs → qs.length = ws.length ∧ lenQ qs ≤ wsW ws
  | [], qs, h => by
    rw [quotesT] at h
    injection h with h
    subst h
    exact ⟨rfl, Nat.le_refl _⟩
  | w :: ws, qs, h => by
    rw [quotesT] at h
    cases e : quoteT (T w) with
    | none => rw [e] at h; cases h
    | some q =>
      rw [e] at h
      cases e2 : quotesT ws with
      | none => rw [e2] at h; cases h
      | some rs =>
        rw [e2] at h
        injection h with h
        subst h
        have h1 := quotes_len ws rs e2
        have h2 := quoteT_len e
        rw [T_len] at h2
        refine ⟨by simp [h1.1], ?_⟩
        simp only [lenQ, List.map_cons, List.sum_cons, wsW] at h1 ⊢
        omega
theorem write_wt : ∀ (F : Fo) (d : Nat) (o : List UInt8), writeF d F = some o → d ≤ 32 → o.length ≤ wtF F
  | .nil, d, o, h, _ => by
    rw [writeF] at h
    injection h with h
    subst h
    exact Nat.zero_le _
  | .cons ws ps blk K R, d, o, h, hd => by
    rw [writeF] at h
    split at h
    · cases h
    · rename_i hn
      cases e : quotesT ws with
      | none => rw [e] at h; cases h
      | some qs =>
        rw [e] at h
        have h1 := join_le qs
        have h2 := (quotes_len ws qs e).2
        cases blk with
        | false =>
          simp only [Bool.false_eq_true, if_false] at h
          cases e3 : writeF d R with
          | none => rw [e3] at h; cases h
          | some r =>
            rw [e3] at h
            injection h with h
            subst h
            have h3 := write_wt R d r e3 hd
            rw [wtF]
            simp [indT]
            omega
        | true =>
          simp only [if_true] at h
          have hd2 : d < 32 := by
            rcases Nat.lt_or_ge d 32 with h' | h'
            · exact h'
            · exact absurd (.inr (.inr ⟨rfl, h'⟩)) hn
          cases e4 : writeF (d + 1) K with
          | none => rw [e4] at h; cases h
          | some k =>
            rw [e4] at h
            cases e3 : writeF d R with
            | none => rw [e3] at h; cases h
            | some r =>
              rw [e3] at h
              injection h with h
              subst h
              have h3 := write_wt R d r e3 hd
              have h4 := write_wt K (d + 1) k e4 (by omega)
              rw [wtF]
              simp [indT]
              omega
theorem repeat_ind : ∀ d : Nat, Lib.repeatL [32, 32, 32, 32] d = indT d
  | 0 => rfl
  | d + 1 => by
    rw [Lib.repeatL, repeat_ind d, indT, indT, show 4 * (d + 1) = 4 + 4 * d by omega, ← List.replicate_append_replicate]
    rfl
end Go.Proofs.Ytihmmmodimionaa.Tr
