/- Regions that draw their order: what only reckons may be taken first; what is left comes one by one. No program is in sight. -/
import Derived.Test.YtihmmmodimionaaBase
namespace Go.Proofs.Ytihmmmodimionaa

/-- an operation that only reckons -/
def plainB (o : Oper) : Bool :=
  match o.op with
  | .move _ | .assign _ | .pick .. | .build .. | .binOp .. | .unOp .. | .convert .. | .slice .. | .fieldAddr .. | .field .. | .indexAddr .. | .index .. | .extract .. => true
  | _ => false
theorem value_run {P : Program} (s : Sem Value) (w : World) : (∃ u w', (do pure (Next.value (← s)) : Sem Next).run P w = .ok (.value u) w') ∨ ∃ x w', (do pure (Next.value (← s)) : Sem Next).run P w = .halt x w' := by
  rw [Sem.run_bind]
  cases s.run P w with
  | ok u w' => exact .inl ⟨u, w', rfl⟩
  | halt x w' => exact .inr ⟨x, w', rfl⟩
theorem plain_run {P : Program} {o : Oper} {ρ : Operand → Value} (w : World) (hp : plainB o = true) : (∃ u w', (execOp ρ o).run P w = .ok (.value u) w') ∨ ∃ x w', (execOp ρ o).run P w = .halt x w' := by
  unfold plainB at hp
  unfold execOp
  split at hp <;> rename_i ho
  case h_1 => simp only [ho]; exact .inl ⟨_, _, rfl⟩
  case h_2 => simp only [ho]; exact .inl ⟨_, _, rfl⟩
  case h_3 => 
    simp only [ho]
    rw [Sem.run_bind]
    cases (asBool (ρ _)).run P w with
    | ok u w' => exact .inl ⟨_, w', rfl⟩
    | halt x w' => exact .inr ⟨x, w', rfl⟩
  case h_14 => cases hp
  all_goals (simp only [ho]; exact value_run _ _)

def ident (x : World) : World := x
/-- the class of all worlds -/
abbrev AnyW : World → Prop := fun w' => ∃ x, w' = ident x
theorem anyW (w : World) : AnyW w := ⟨w, rfl⟩

theorem yields_quiet {P : Program} {ops : Array Oper} {o : Oper} {a : Act} {K : Act → Prop} (hp : plainB o = true) (hw : Region.wanted o (yielded ops a.tmps) = true) (h : o.quiet P a AnyW K) :
    ∃ v, Yields P ops o v a ∧ K (a.put o.dst v) := by
  obtain ⟨v, h1, h2⟩ := h
  refine ⟨v, .inl ⟨hw, fun w => ?_⟩, h2⟩
  have h3 := h1 w (anyW w)
  unfold Oper.quietAt at h3
  rcases plain_run (P := P) (ρ := a.eval) w hp with ⟨u, w', e⟩ | ⟨x, w', e⟩
  · rw [e] at h3 ⊢
    obtain ⟨rfl, rfl⟩ := h3
    rfl
  · rw [e] at h3
    cases h3

/-- the operation of this number -/
inductive AtN : List Oper → Nat → Oper → Prop
  | zero {o : Oper} {l : List Oper} : AtN (o :: l) 0 o
  | succ {k : Nat} {o x : Oper} {l : List Oper} : AtN l k o → AtN (x :: l) (k + 1) o
theorem AtN.get {l : List Oper} {k : Nat} {o : Oper} (h : AtN l k o) : l[k]? = some o := by
  induction h with
  | zero => rfl
  | succ _ ih => simpa using ih
/-- the operations of these numbers -/
inductive Picks (l : List Oper) : List Nat → List Oper → Prop
  | nil : Picks l [] []
  | cons {k : Nat} {o : Oper} {ks : List Nat} {os : List Oper} : AtN l k o → Picks l ks os → Picks l (k :: ks) (o :: os)

def restB (md : Region.Mode) (ops : Array Oper) : List Nat → Array Bool → Bool
  | [], listed => (Region.ready md ops listed).isEmpty
  | k :: ks, listed => decide (Region.ready md ops listed = [k]) && restB md ops ks (listed.setIfInBounds k true)
def takenB (md : Region.Mode) (ops : Array Oper) (ks : List Nat) : List Nat → Array Bool → Bool
  | [], listed => restB md ops ks listed
  | k :: hs, listed => (Region.ready md ops listed).contains k && Region.free md ops listed k && ((ops[k]?).map plainB).getD false && takenB md ops ks hs (listed.setIfInBounds k true)

section
variable {P : Program} {md : Region.Mode} {l : List Oper} {Q : Exit → Act → World → Prop}
theorem wpAny_rest : ∀ (ks : List Nat) (os : List Oper) (listed : Array Bool) (a : Act) (w : World), Picks l ks os → restB md l.toArray ks listed = true → wpList P l.toArray Q os a w → wpAny P md l.toArray Q ks.length listed a w := by
  intro ks
  induction ks with
  | nil =>
    intro os listed a w hp hB h
    cases hp
    exact ⟨by simpa [restB] using hB, h⟩
  | cons k ks ih =>
    intro os listed a w hp hB h
    cases hp with
    | cons h0' hp =>
      rename_i o os
      have h0 : l.toArray[k]? = some o := by simpa using h0'.get
      simp only [restB, Bool.and_eq_true, decide_eq_true_eq] at hB
      refine ⟨fun h1 => (by rw [hB.1] at h1; cases h1), fun i hi => ?_⟩
      rw [hB.1] at hi
      have hik : i = k := by simpa using hi
      subst hik
      have hw : wpOp P l.toArray Q i (wpList P l.toArray Q os) a w := by unfold wpOp; simp only [h0]; exact h
      exact wpOp_mono (fun a' w' h' => ih os _ a' w' hp hB.2 h') hw
theorem hput {e : Exit} (hQ : ∀ a (d : Nat) v w, Q e (Act.put a (some d) v) w → Q e a w) (a : Act) (d : Option Nat) (v : Value) (w : World) (h : Q e (Act.put a d v) w) : Q e a w := by
  cases d with
  | none => exact h
  | some d => exact hQ a d v w h
theorem wpAny_taken (hs : Region.noSelect l.toArray = true) (hQ : ∀ c a (d : Nat) v w, Q (.panic c) (Act.put a (some d) v) w → Q (.panic c) a w) (ks : List Nat) (ks' : List Oper) (hk : Picks l ks ks') : ∀ (hds : List Nat) (os : List Oper) (listed : Array Bool) (a : Act) (w : World), Picks l hds os → takenB md l.toArray ks hds listed = true →
    wpQuiet P l.toArray AnyW (fun a' => wpList P l.toArray Q ks' a' w) os a → wpAny P md l.toArray Q (hds.length + ks.length) listed a w := by
  intro hds
  induction hds with
  | nil =>
    intro os listed a w hp hB h
    cases hp
    rw [List.length_nil, Nat.zero_add]
    exact wpAny_rest ks ks' listed a w hk hB h
  | cons k hds ih =>
    intro os listed a w hp hB h
    cases hp with
    | cons h0' hp =>
      rename_i o os
      have h0 : l.toArray[k]? = some o := by simpa using h0'.get
      simp only [takenB, Bool.and_eq_true, h0, Option.map_some, Option.getD_some] at hB
      obtain ⟨⟨⟨hr, hf⟩, hpl⟩, hB'⟩ := hB
      rw [List.length_cons, Nat.add_right_comm]
      unfold wpQuiet at h
      by_cases hw : Region.wanted o (yielded l.toArray a.tmps) = true
      · rw [if_pos hw] at h
        obtain ⟨v, hy, hK⟩ := yields_quiet hpl hw h
        exact wpAny_take h0 hs hf hr (fun c a w h => hput (hQ c) a _ _ w h) hy (ih os _ _ w hp hB' hK)
      · rw [if_neg hw] at h
        exact wpAny_take h0 hs hf hr (fun c a w h => hput (hQ c) a _ _ w h) (.inr ⟨by simpa using hw, rfl⟩) (ih os _ _ w hp hB' h)
theorem wp_region_taken {id : Nat} {a : Act} {w : World} (hds ks : List Nat) {os ks' : List Oper} (hm : P.follows .mixedOrders = true) (hl : hds.length + ks.length = l.toArray.size) (hs : Region.noSelect l.toArray = true) (hB : takenB .any l.toArray ks hds (Array.replicate l.toArray.size false) = true) (hp : Picks l hds os) (hk : Picks l ks ks')
    (hQ : ∀ c a (d : Nat) v w, Q (.panic c) (Act.put a (some d) v) w → Q (.panic c) a w) (h : wpQuiet P l.toArray AnyW (fun a' => wpList P l.toArray Q ks' a' w.drew) os a) : (Code.region id l.toArray true).wp P Q a w := by
  refine wp_region_any hm ?_
  have := wpAny_taken (P := P) (md := .any) (Q := Q) hs hQ ks ks' hk hds os _ a w.drew hp hB h
  rw [hl] at this
  exact this
/-- .. two of those that are left may come up first, whichever: what comes then is one by one -/
def twoB (md : Region.Mode) (ops : Array Oper) (i j : Nat) (ks1 ks2 : List Nat) : List Nat → Array Bool → Bool
  | [], listed => decide (Region.ready md ops listed = [i, j]) && restB md ops ks1 (listed.setIfInBounds i true) && restB md ops ks2 (listed.setIfInBounds j true)
  | k :: hs, listed => (Region.ready md ops listed).contains k && Region.free md ops listed k && ((ops[k]?).map plainB).getD false && twoB md ops i j ks1 ks2 hs (listed.setIfInBounds k true)
theorem wpAny_two (hs : Region.noSelect l.toArray = true) (hQ : ∀ c a (d : Nat) v w, Q (.panic c) (Act.put a (some d) v) w → Q (.panic c) a w) (i j : Nat) (ks1 ks2 : List Nat) (hlen : ks1.length = ks2.length) (os1 os2 : List Oper) (h1 : Picks l (i :: ks1) os1) (h2 : Picks l (j :: ks2) os2) :
    ∀ (hds : List Nat) (os : List Oper) (listed : Array Bool) (a : Act) (w : World), Picks l hds os → twoB md l.toArray i j ks1 ks2 hds listed = true →
    wpQuiet P l.toArray AnyW (fun a' => wpList P l.toArray Q os1 a' w ∧ wpList P l.toArray Q os2 a' w) os a → wpAny P md l.toArray Q (hds.length + (ks1.length + 1)) listed a w := by
  intro hds
  induction hds with
  | nil =>
    intro os listed a w hp hB h
    cases hp
    rw [List.length_nil, Nat.zero_add]
    simp only [twoB, Bool.and_eq_true, decide_eq_true_eq] at hB
    obtain ⟨⟨hr, hB1⟩, hB2⟩ := hB
    obtain ⟨g1, g2⟩ := (show wpList P l.toArray Q os1 a w ∧ wpList P l.toArray Q os2 a w from h)
    refine ⟨fun h0 => (by rw [hr] at h0; cases h0), fun k hk => ?_⟩
    rw [hr] at hk
    cases h1 with
    | cons n1 p1 =>
      cases h2 with
      | cons n2 p2 =>
        rename_i o1 os1 o2 os2
        have q1 : l.toArray[i]? = some o1 := by simpa using n1.get
        have q2 : l.toArray[j]? = some o2 := by simpa using n2.get
        rcases (by simpa using hk : k = i ∨ k = j) with rfl | rfl
        · have hw : wpOp P l.toArray Q k (wpList P l.toArray Q os1) a w := by unfold wpOp; simp only [q1]; exact g1
          exact wpOp_mono (fun a' w' h' => wpAny_rest ks1 os1 _ a' w' p1 hB1 h') hw
        · have hw : wpOp P l.toArray Q k (wpList P l.toArray Q os2) a w := by unfold wpOp; simp only [q2]; exact g2
          rw [hlen]
          exact wpOp_mono (fun a' w' h' => wpAny_rest ks2 os2 _ a' w' p2 hB2 h') hw
  | cons k hds ih =>
    intro os listed a w hp hB h
    cases hp with
    | cons h0' hp =>
      rename_i o os
      have h0 : l.toArray[k]? = some o := by simpa using h0'.get
      simp only [twoB, Bool.and_eq_true, h0, Option.map_some, Option.getD_some] at hB
      obtain ⟨⟨⟨hr, hf⟩, hpl⟩, hB'⟩ := hB
      rw [List.length_cons, Nat.add_right_comm]
      unfold wpQuiet at h
      by_cases hw : Region.wanted o (yielded l.toArray a.tmps) = true
      · rw [if_pos hw] at h
        obtain ⟨v, hy, hK⟩ := yields_quiet hpl hw h
        exact wpAny_take h0 hs hf hr (fun c a w h => hput (hQ c) a _ _ w h) hy (ih os _ _ w hp hB' hK)
      · rw [if_neg hw] at h
        exact wpAny_take h0 hs hf hr (fun c a w h => hput (hQ c) a _ _ w h) (.inr ⟨by simpa using hw, rfl⟩) (ih os _ _ w hp hB' h)
theorem wp_region_two {id : Nat} {a : Act} {w : World} (hds : List Nat) (i j : Nat) (ks1 ks2 : List Nat) {os os1 os2 : List Oper} (hm : P.follows .mixedOrders = true) (hl : hds.length + (ks1.length + 1) = l.toArray.size) (hlen : ks1.length = ks2.length) (hs : Region.noSelect l.toArray = true) (hB : twoB .any l.toArray i j ks1 ks2 hds (Array.replicate l.toArray.size false) = true) (hp : Picks l hds os) (h1 : Picks l (i :: ks1) os1) (h2 : Picks l (j :: ks2) os2)
    (hQ : ∀ c a (d : Nat) v w, Q (.panic c) (Act.put a (some d) v) w → Q (.panic c) a w) (h : wpQuiet P l.toArray AnyW (fun a' => wpList P l.toArray Q os1 a' w.drew ∧ wpList P l.toArray Q os2 a' w.drew) os a) : (Code.region id l.toArray true).wp P Q a w := by
  refine wp_region_any hm ?_
  have := wpAny_two (P := P) (md := .any) (Q := Q) hs hQ i j ks1 ks2 hlen os1 os2 h1 h2 hds os _ a w.drew hp hB h
  rw [hl] at this
  exact this
end
end Go.Proofs.Ytihmmmodimionaa
