/- Regions that draw their order: what only reckons first, then each of a few orders one by one. No program is in sight. -/
import Derived.Test.YtihmmmodimionaaT
namespace Go.Proofs.Ytihmmmodimionaa

def calmB (o : Oper) : Bool := plainB o || (match o.op with | .nilCheck _ => true | _ => false)
theorem calm_run {P : Program} {o : Oper} {ρ : Operand → Value} (w : World) (hp : calmB o = true) : (∃ u w', (execOp ρ o).run P w = .ok (.value u) w') ∨ ∃ x w', (execOp ρ o).run P w = .halt x w' := by
  unfold calmB at hp
  rw [Bool.or_eq_true] at hp
  rcases hp with hp | hp
  · exact plain_run w hp
  · unfold execOp
    split at hp <;> rename_i ho
    case h_2 => cases hp
    simp only [ho]
    split
    · exact .inr ⟨_, _, rfl⟩
    · exact .inr ⟨_, _, rfl⟩
    · exact .inr ⟨_, _, rfl⟩
    · split
      · exact .inr ⟨_, _, rfl⟩
      · rw [Sem.run_bind]
        cases (program).run P w with
        | halt x w' => exact .inr ⟨x, w', rfl⟩
        | ok p w' =>
          simp only [Result.andThen]
          rw [Sem.run_bind]
          cases (nilAhead (p.types.size + Made.depth) _ _ _).run P w' with
          | halt x w'' => exact .inr ⟨x, w'', rfl⟩
          | ok b w'' =>
            simp only [Result.andThen]
            split
            · exact .inr ⟨_, _, rfl⟩
            · exact .inl ⟨_, _, rfl⟩
      · exact .inl ⟨_, _, rfl⟩
    · exact .inl ⟨_, _, rfl⟩
theorem yields_calm {P : Program} {ops : Array Oper} {o : Oper} {a : Act} {K : Act → Prop} (hp : calmB o = true) (hw : Region.wanted o (yielded ops a.tmps) = true) (h : o.quiet P a AnyW K) :
    ∃ v, Yields P ops o v a ∧ K (a.put o.dst v) := by
  obtain ⟨v, h1, h2⟩ := h
  refine ⟨v, .inl ⟨hw, fun w => ?_⟩, h2⟩
  have h3 := h1 w (anyW w)
  unfold Oper.quietAt at h3
  rcases calm_run (P := P) (ρ := a.eval) w hp with ⟨u, w', e⟩ | ⟨x, w', e⟩
  · rw [e] at h3 ⊢
    obtain ⟨rfl, rfl⟩ := h3
    rfl
  · rw [e] at h3
    cases h3
/-- an operation that runs no code -/
def lightB (o : Oper) : Bool := calmB o || (match o.op with | .load .. | .buildSlice .. | .alloc _ | .lookup .. => true | _ => false)
theorem light_run {P : Program} {o : Oper} {ρ : Operand → Value} (w : World) (hp : lightB o = true) : (∃ u w', (execOp ρ o).run P w = .ok (.value u) w') ∨ ∃ x w', (execOp ρ o).run P w = .halt x w' := by
  unfold lightB at hp
  rw [Bool.or_eq_true] at hp
  rcases hp with hp | hp
  · exact calm_run w hp
  · unfold execOp
    split at hp <;> rename_i ho
    case h_5 => cases hp
    all_goals (simp only [ho]; exact value_run _ _)
/-- one path, or an operation that runs no code -/
def oneB (ops : Array Oper) (i : Nat) (ps : List (List Nat)) : Bool := decide (ps.length = 1) || (((ops[i]?).map lightB).getD false && decide (1 ≤ ps.length))
def pathsB (md : Region.Mode) (ops : Array Oper) : Nat → Array Bool → List (List Nat) → Bool
  | 0, listed, pss => (Region.ready md ops listed).isEmpty && pss.contains []
  | n + 1, listed, pss => if (Region.ready md ops listed).isEmpty then pss.contains [] else (Region.ready md ops listed).all fun i => oneB ops i ((pss.filter fun p => p.head? == some i).map List.tail) && pathsB md ops n (listed.setIfInBounds i true) ((pss.filter fun p => p.head? == some i).map List.tail)
def takenP (md : Region.Mode) (ops : Array Oper) (n : Nat) (pss : List (List Nat)) : List Nat → Array Bool → Bool
  | [], listed => pathsB md ops n listed pss
  | k :: hs, listed => (Region.ready md ops listed).contains k && Region.free md ops listed k && ((ops[k]?).map calmB).getD false && takenP md ops n pss hs (listed.setIfInBounds k true)
def Each (p : List Oper → Prop) : List (List Oper) → Prop
  | [] => True
  | [x] => p x
  | x :: xs => p x ∧ Each p xs
theorem Each.one {p : List Oper → Prop} {x : List Oper} (h : p x) : Each p [x] := h
theorem Each.cons {p : List Oper → Prop} {x : List Oper} {xs : List (List Oper)} (h : Each p (x :: xs)) : p x ∧ Each p xs := by
  cases xs with
  | nil => exact ⟨h, trivial⟩
  | cons y ys => exact h
theorem Each.all {p : List Oper → Prop} : ∀ {xs : List (List Oper)}, Each p xs → ∀ x ∈ xs, p x := by
  intro xs
  induction xs with
  | nil => intro _ x hx; cases hx
  | cons y ys ih =>
    intro h x hx
    have h' := h.cons
    rcases List.mem_cons.1 hx with rfl | hx
    · exact h'.1
    · exact ih h'.2 x hx
inductive PickAll (l : List Oper) : List (List Nat) → List (List Oper) → Prop
  | nil : PickAll l [] []
  | cons {ps : List Nat} {os : List Oper} {pss : List (List Nat)} {oss : List (List Oper)} : Picks l ps os → PickAll l pss oss → PickAll l (ps :: pss) (os :: oss)
theorem PickAll.get {l : List Oper} {pss : List (List Nat)} {oss : List (List Oper)} (h : PickAll l pss oss) : ∀ ps ∈ pss, ∃ os ∈ oss, Picks l ps os := by
  induction h with
  | nil => intro ps h; cases h
  | cons h1 _ ih =>
    intro ps hp
    rcases List.mem_cons.1 hp with rfl | hp
    · exact ⟨_, by simp, h1⟩
    · obtain ⟨os, ho, hk⟩ := ih ps hp
      exact ⟨os, by simp [ho], hk⟩
section
variable {P : Program} {md : Region.Mode} {l : List Oper} {Q : Exit → Act → World → Prop}
theorem wpAny_paths : ∀ (n : Nat) (listed : Array Bool) (pss : List (List Nat)) (a : Act) (w : World), pathsB md l.toArray n listed pss = true → (∀ ps ∈ pss, ∃ os, Picks l ps os ∧ wpList P l.toArray Q os a w) → wpAny P md l.toArray Q n listed a w := by
  intro n
  induction n with
  | zero =>
    intro listed pss a w hB h
    simp only [pathsB, Bool.and_eq_true, List.isEmpty_iff] at hB
    obtain ⟨os, ho, hw⟩ := h [] (by simpa using hB.2)
    cases ho
    exact ⟨hB.1, hw⟩
  | succ n ih =>
    intro listed pss a w hB h
    unfold pathsB at hB
    by_cases he : (Region.ready md l.toArray listed).isEmpty = true
    · rw [if_pos he] at hB
      have he' := List.isEmpty_iff.1 he
      obtain ⟨os, ho, hw⟩ := h [] (by simpa using hB)
      cases ho
      exact ⟨fun _ => hw, fun i hi => by rw [he'] at hi; cases hi⟩
    · rw [if_neg he] at hB
      have he' : Region.ready md l.toArray listed ≠ [] := fun e => he (by rw [e]; rfl)
      refine ⟨fun e => absurd e he', fun i hi => ?_⟩
      have hb := List.all_eq_true.1 hB i hi
      rw [Bool.and_eq_true] at hb
      obtain ⟨hone, hb⟩ := hb
      -- one path at least goes on with i
      have hex : ∀ ps ∈ (pss.filter fun p => p.head? == some i).map List.tail, ∃ o os, l.toArray[i]? = some o ∧ Picks l ps os ∧ wpList P l.toArray Q (o :: os) a w := by
        intro ps hps
        obtain ⟨qs, hq, rfl⟩ := List.mem_map.1 hps
        obtain ⟨hq1, hq2⟩ := List.mem_filter.1 hq
        obtain ⟨os, ho, hw⟩ := h qs hq1
        cases ho with
        | nil => simp at hq2
        | cons h0 hp =>
          rename_i k o ks os
          have hk : k = i := by simpa using hq2
          subst hk
          exact ⟨o, os, by simpa using h0.get, hp, hw⟩
      have hlt := (mem_ready.1 hi).2
      obtain ⟨o, ho, _⟩ := hlt
      have key : ∀ ps ∈ (pss.filter fun p => p.head? == some i).map List.tail, ∃ os, Picks l ps os ∧ wpList P l.toArray Q (o :: os) a w := by
        intro ps hps
        obtain ⟨o', os, e1, e2, e3⟩ := hex ps hps
        rw [ho] at e1
        cases e1
        exact ⟨os, e2, e3⟩
      generalize hps : (pss.filter fun p => p.head? == some i).map List.tail = qss at hone hb key
      unfold wpOp
      simp only [ho]
      unfold oneB at hone
      rw [Bool.or_eq_true] at hone
      unfold wpList at key
      by_cases hw : Region.wanted o (yielded l.toArray a.tmps) = true
      · simp only [hw, if_true] at key ⊢
        rcases hone with h1 | h1
        · have h1 := of_decide_eq_true h1
          obtain ⟨q, rfl⟩ : ∃ q, qss = [q] := by
            match qss, h1 with
            | [q], _ => exact ⟨q, rfl⟩
          obtain ⟨os, e2, e3⟩ := key q (by simp)
          exact e3.imp (Oper.wp_mono (fun a' w' h' => ih _ _ a' w' hb (fun ps hp => by
            obtain rfl : ps = q := by simpa using hp
            exact ⟨os, e2, h'⟩))) id
        · rw [Bool.and_eq_true, ho] at h1
          simp only [Option.map_some, Option.getD_some] at h1
          obtain ⟨hl, h1⟩ := h1
          have h1 := of_decide_eq_true h1
          by_cases has : o.asks P a w ∧ LetsOut Q
          · exact .inr has
          · left
            have key2 : ∀ ps ∈ qss, ∃ os, Picks l ps os ∧ o.wp P a w (wpList P l.toArray Q os) Q := by
              intro ps hp
              obtain ⟨os, e2, e3⟩ := key ps hp
              exact ⟨os, e2, e3.resolve_right has⟩
            unfold Oper.wp at key2 ⊢
            rcases light_run (P := P) (ρ := a.eval) w hl with ⟨u, w', e⟩ | ⟨x, w', e⟩
            · rw [e] at key2 ⊢
              exact ih _ _ _ _ hb key2
            · rw [e] at key2 ⊢
              obtain ⟨q, hq⟩ : ∃ q, q ∈ qss := by
                match qss, h1 with
                | q :: _, _ => exact ⟨q, by simp⟩
              obtain ⟨os, _, e3⟩ := key2 q hq
              cases x <;> exact e3
      · simp only [hw, Bool.false_eq_true, if_false] at key ⊢
        exact ih _ _ _ _ hb key
theorem wpAny_takenP (hs : Region.noSelect l.toArray = true) (hQ : ∀ c a (d : Nat) v w, Q (.panic c) (Act.put a (some d) v) w → Q (.panic c) a w) (n : Nat) (pss : List (List Nat)) (oss : List (List Oper)) (hk : PickAll l pss oss) : ∀ (hds : List Nat) (os : List Oper) (listed : Array Bool) (a : Act) (w : World), Picks l hds os → takenP md l.toArray n pss hds listed = true →
    wpQuiet P l.toArray AnyW (fun a' => Each (fun ks' => wpList P l.toArray Q ks' a' w) oss) os a → wpAny P md l.toArray Q (hds.length + n) listed a w := by
  intro hds
  induction hds with
  | nil =>
    intro os listed a w hp hB h
    cases hp
    rw [List.length_nil, Nat.zero_add]
    refine wpAny_paths n listed pss a w hB (fun ps hps => ?_)
    obtain ⟨os, ho, hp⟩ := hk.get ps hps
    exact ⟨os, hp, Each.all h os ho⟩
  | cons k hds ih =>
    intro os listed a w hp hB h
    cases hp with
    | cons h0' hp =>
      rename_i o os
      have h0 : l.toArray[k]? = some o := by simpa using h0'.get
      simp only [takenP, Bool.and_eq_true, h0, Option.map_some, Option.getD_some] at hB
      obtain ⟨⟨⟨hr, hf⟩, hpl⟩, hB'⟩ := hB
      rw [List.length_cons, Nat.add_right_comm]
      unfold wpQuiet at h
      by_cases hw : Region.wanted o (yielded l.toArray a.tmps) = true
      · rw [if_pos hw] at h
        obtain ⟨v, hy, hK⟩ := yields_calm hpl hw h
        exact wpAny_take h0 hs hf hr (fun c a w h => hput (hQ c) a _ _ w h) hy (ih os _ _ w hp hB' hK)
      · rw [if_neg hw] at h
        exact wpAny_take h0 hs hf hr (fun c a w h => hput (hQ c) a _ _ w h) (.inr ⟨by simpa using hw, rfl⟩) (ih os _ _ w hp hB' h)
theorem wp_region_paths {id : Nat} {a : Act} {w : World} (n : Nat) (hds : List Nat) (pss : List (List Nat)) {os : List Oper} {oss : List (List Oper)} (hm : P.follows .mixedOrders = true) (hl : hds.length + n = l.toArray.size) (hs : Region.noSelect l.toArray = true) (hB : takenP .any l.toArray n pss hds (Array.replicate l.toArray.size false) = true) (hp : Picks l hds os) (hk : PickAll l pss oss)
    (hQ : ∀ c a (d : Nat) v w, Q (.panic c) (Act.put a (some d) v) w → Q (.panic c) a w) (h : wpQuiet P l.toArray AnyW (fun a' => Each (fun ks' => wpList P l.toArray Q ks' a' w.drew) oss) os a) : (Code.region id l.toArray true).wp P Q a w := by
  refine wp_region_any hm ?_
  have := wpAny_takenP (P := P) (md := .any) (Q := Q) hs hQ n pss oss hk hds os _ a w.drew hp hB h
  rw [hl] at this
  exact this
end
end Go.Proofs.Ytihmmmodimionaa
