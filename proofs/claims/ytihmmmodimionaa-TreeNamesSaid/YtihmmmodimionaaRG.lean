/- Regions that draw their order and end in stores: what reckons and what loads is taken first, while what is loaded stands as it stood; then each of a few orders one by one. No program is in sight. -/
import Derived.Test.YtihmmmodimionaaBT
import Derived.OrdersHeld
namespace Go.Proofs.Ytihmmmodimionaa
open Go.RowKit (Hid)

section
variable {P : Program} {ops : Array Oper} {Q : Exit → Act → World → Prop} {md : Region.Mode} {S : World → Prop} {U : Nat → Bool}
/-- whichever order: behind each operation but the late ones, S -/
def wpAnyU (P : Program) (md : Region.Mode) (ops : Array Oper) (Q : Exit → Act → World → Prop) (S : World → Prop) (U : Nat → Bool) : Nat → Array Bool → Act → World → Prop
  | 0, listed, a, w => Region.ready md ops listed = [] ∧ Q .normal a w
  | fuel + 1, listed, a, w => (Region.ready md ops listed = [] → Q .normal a w) ∧
    ∀ i ∈ Region.ready md ops listed, wpOp P ops Q i (fun a' w' => (U i = false → S w') ∧ wpAnyU P md ops Q S U fuel (listed.setIfInBounds i true) a' w') a w
theorem wpAny_of_U : ∀ (fuel : Nat) (listed : Array Bool) (a : Act) (w : World), wpAnyU P md ops Q S U fuel listed a w → wpAny P md ops Q fuel listed a w
  | 0, _, _, _, h => h
  | fuel + 1, _, _, _, h => ⟨h.1, fun i hi => wpOp_mono (fun a' w' h' => wpAny_of_U fuel _ a' w' h'.2) (h.2 i hi)⟩
theorem wpAnyU_first {i : Nat} {oi : Oper} {v : Value} (hi : ops[i]? = some oi) (hsel : ∀ (j : Nat) (o : Oper) cs b, ops[j]? = some o → o.op ≠ .select cs b)
    (hQ : ∀ c a w, Q (.panic c) (a.put oi.dst v) w → Q (.panic c) a w)
    (hU : ∀ j oj, ops[j]? = some oj → U j = true → ∃ e ∈ oj.after, Region.binds md e = true ∧ e.on = i) :
    ∀ (fuel : Nat) (listed : Array Bool) (a : Act) (w : World),
      (∀ j oj, ops[j]? = some oj → j ≠ i → listed.getD j true = false → (∀ e ∈ oj.after, Region.binds md e = true → e.on ≠ i) → oi.apart ops oj = true) →
      i ∈ Region.ready md ops listed → YieldsIf P ops S oi v a → S w →
      wpAnyU P md ops Q S U fuel (listed.setIfInBounds i true) (a.put oi.dst v) w → wpAnyU P md ops Q S U (fuel + 1) listed a w := by
  intro fuel
  induction fuel with
  | zero =>
    intro listed a w _ hr hy hS H
    refine ⟨fun h => (by rw [h] at hr; cases hr), fun j hj => ?_⟩
    by_cases hji : j = i
    · subst hji; exact hy.wpOp hi hS ⟨fun _ => hS, H⟩
    · have := ready_mono hj hji
      rw [H.1] at this
      cases this
  | succ fuel ih =>
    intro listed a w hfree hr hy hS H
    refine ⟨fun h => (by rw [h] at hr; cases hr), fun j hj => ?_⟩
    by_cases hji : j = i
    · subst hji; exact hy.wpOp hi hS ⟨fun _ => hS, H⟩
    · have h1 := H.2 j (ready_mono hj hji)
      obtain ⟨hjun, oj, hoj, hall⟩ := mem_ready.1 hj
      have hnot : ∀ e ∈ oj.after, Region.binds md e = true → e.on ≠ i := fun e he hb heq => by
        have h1 := hall e he hb
        have h0 := (mem_ready.1 hr).1
        rw [heq] at h1
        rcases Nat.lt_or_ge i listed.size with h' | h'
        · simp [h'] at h0 h1; rw [h0] at h1; cases h1
        · simp [Array.getElem?_eq_none h'] at h1
      have hUj : U j = false := by
        cases hu : U j with
        | false => rfl
        | true =>
          obtain ⟨e, he, hb, heq⟩ := hU j oj hoj hu
          exact absurd heq (hnot e he hb)
      have h2 := wpOp_putIf hoj (hfree j oj hoj hji hjun hnot) (fun cs b => hsel i oi cs b hi) (fun cs b => hsel j oj cs b hoj) hQ hy h1
      have hfree' : ∀ k ok, ops[k]? = some ok → k ≠ i → (listed.setIfInBounds j true).getD k true = false →
          (∀ e ∈ ok.after, Region.binds md e = true → e.on ≠ i) → oi.apart ops ok = true := fun k ok hk hki hun hno => by
        refine hfree k ok hk hki ?_ hno
        by_cases hjk : j = k
        · subst hjk; exact hjun
        · rw [getD_set_ne true hjk] at hun; exact hun
      refine wpOp_mono (fun a' w' h3 => ⟨fun _ => h3.2.1 hUj, ih (listed.setIfInBounds j true) a' w' hfree' (ready_mono hr (Ne.symm hji)) h3.1 (h3.2.1 hUj) ?_⟩) h2
      rw [Array.setIfInBounds_comm _ _ hji]
      exact h3.2.2
end

/-- a world of the class, or the first one -/
noncomputable def pin (S : World → Prop) (w x : World) : World := by classical exact if S x then x else w
theorem pin_in {S : World → Prop} {w : World} (h : S w) (x : World) : S (pin S w x) := by
  unfold pin
  split
  · assumption
  · exact h
theorem pin_of {S : World → Prop} {w x : World} (h : S x) : x = pin S w x := by
  unfold pin
  rw [if_pos h]
abbrev Pin (S : World → Prop) (w : World) : World → Prop := fun w' => ∃ x, w' = pin S w x
theorem pin_mem {S : World → Prop} {w x : World} (h : S x) : Pin S w x := ⟨x, pin_of h⟩

def calmL (o : Oper) : Bool := calmB o || (match o.op with | .load .. => true | _ => false)
theorem calmL_run {P : Program} {o : Oper} {ρ : Operand → Value} (w : World) (hp : calmL o = true) : (∃ u w', (execOp ρ o).run P w = .ok (.value u) w') ∨ ∃ x w', (execOp ρ o).run P w = .halt x w' := by
  unfold calmL at hp
  rw [Bool.or_eq_true] at hp
  refine light_run w ?_
  unfold lightB
  rw [Bool.or_eq_true]
  rcases hp with hp | hp
  · exact .inl hp
  · refine .inr ?_
    split at hp
    · rename_i ho; rw [ho]
    · cases hp
theorem yields_in {P : Program} {ops : Array Oper} {C : World → Prop} {o : Oper} {a : Act} {K : Act → Prop} (hp : calmL o = true) (hw : Region.wanted o (yielded ops a.tmps) = true) (h : o.quiet P a C K) :
    ∃ v, YieldsIf P ops C o v a ∧ K (a.put o.dst v) := by
  obtain ⟨v, h1, h2⟩ := h
  refine ⟨v, .inl ⟨hw, fun w hC => ?_⟩, h2⟩
  have h3 := h1 w hC
  unfold Oper.quietAt at h3
  rcases calmL_run (P := P) (ρ := a.eval) w hp with ⟨u, w', e⟩ | ⟨x, w', e⟩
  · rw [e] at h3 ⊢
    obtain ⟨rfl, rfl⟩ := h3
    rfl
  · rw [e] at h3
    cases h3

/-- one by one; behind each but the late ones, S -/
def wpListU (P : Program) (ops : Array Oper) (Q : Exit → Act → World → Prop) (S : World → Prop) : List (Oper × Bool) → Act → World → Prop
  | [], a, w => Q .normal a w
  | (o, u) :: os, a, w => if Region.wanted o (yielded ops a.tmps) = true then o.wp P a w (fun a' w' => (u = false → S w') ∧ wpListU P ops Q S os a' w') Q else (u = false → S w) ∧ wpListU P ops Q S os (a.put o.dst undef) w
inductive PickU (l : List Oper) (U : Nat → Bool) : List Nat → List (Oper × Bool) → Prop
  | nil : PickU l U [] []
  | cons {k : Nat} {o : Oper} {b : Bool} {ks : List Nat} {os : List (Oper × Bool)} : AtN l k o → U k = b → PickU l U ks os → PickU l U (k :: ks) ((o, b) :: os)
inductive PickAllU (l : List Oper) (U : Nat → Bool) : List (List Nat) → List (List (Oper × Bool)) → Prop
  | nil : PickAllU l U [] []
  | cons {ps : List Nat} {os : List (Oper × Bool)} {pss : List (List Nat)} {oss : List (List (Oper × Bool))} : PickU l U ps os → PickAllU l U pss oss → PickAllU l U (ps :: pss) (os :: oss)
theorem PickAllU.get {l : List Oper} {U : Nat → Bool} {pss : List (List Nat)} {oss : List (List (Oper × Bool))} (h : PickAllU l U pss oss) : ∀ ps ∈ pss, ∃ os ∈ oss, PickU l U ps os := by
  induction h with
  | nil => intro ps h; cases h
  | cons h1 _ ih =>
    intro ps hp
    rcases List.mem_cons.1 hp with rfl | hp
    · exact ⟨_, by simp, h1⟩
    · obtain ⟨os, ho, hk⟩ := ih ps hp
      exact ⟨os, by simp [ho], hk⟩
def EachU (p : List (Oper × Bool) → Prop) : List (List (Oper × Bool)) → Prop
  | [] => True
  | [x] => p x
  | x :: xs => p x ∧ EachU p xs
theorem EachU.one {p : List (Oper × Bool) → Prop} {x : List (Oper × Bool)} (h : p x) : EachU p [x] := h
theorem EachU.all {p : List (Oper × Bool) → Prop} : ∀ {xs : List (List (Oper × Bool))}, EachU p xs → ∀ x ∈ xs, p x := by
  intro xs
  induction xs with
  | nil => intro _ x hx; cases hx
  | cons y ys ih =>
    intro h x hx
    cases ys with
    | nil =>
      obtain rfl : x = y := by simpa using hx
      exact h
    | cons z zs =>
      rcases List.mem_cons.1 hx with rfl | hx
      · exact h.1
      · exact ih h.2 x hx
section
variable {P : Program} {md : Region.Mode} {l : List Oper} {Q : Exit → Act → World → Prop} {S : World → Prop} {U : Nat → Bool}
theorem wpAnyU_paths : ∀ (n : Nat) (listed : Array Bool) (pss : List (List Nat)) (a : Act) (w : World), pathsB md l.toArray n listed pss = true → (∀ ps ∈ pss, ∃ os, PickU l U ps os ∧ wpListU P l.toArray Q S os a w) → wpAnyU P md l.toArray Q S U n listed a w := by
  intro n
  induction n with
  | zero =>
    intro listed pss a w hB h
    simp only [pathsB, Bool.and_eq_true, List.isEmpty_iff] at hB
    obtain ⟨os, ho, hw⟩ := h [] (by simpa using hB.2)
    cases ho
    exact ⟨hB.1, hw⟩
  | succ n ih =>
    intro listed pss a w hB h
    unfold pathsB at hB
    by_cases he : (Region.ready md l.toArray listed).isEmpty = true
    · rw [if_pos he] at hB
      have he' := List.isEmpty_iff.1 he
      obtain ⟨os, ho, hw⟩ := h [] (by simpa using hB)
      cases ho
      exact ⟨fun _ => hw, fun i hi => by rw [he'] at hi; cases hi⟩
    · rw [if_neg he] at hB
      have he' : Region.ready md l.toArray listed ≠ [] := fun e => he (by rw [e]; rfl)
      refine ⟨fun e => absurd e he', fun i hi => ?_⟩
      have hb := List.all_eq_true.1 hB i hi
      rw [Bool.and_eq_true] at hb
      obtain ⟨hone, hb⟩ := hb
      obtain ⟨o, ho, _⟩ := (mem_ready.1 hi).2
      have key : ∀ ps ∈ (pss.filter fun p => p.head? == some i).map List.tail, ∃ os, PickU l U ps os ∧ wpListU P l.toArray Q S ((o, U i) :: os) a w := by
        intro ps hps
        obtain ⟨qs, hq, rfl⟩ := List.mem_map.1 hps
        obtain ⟨hq1, hq2⟩ := List.mem_filter.1 hq
        obtain ⟨os, ho', hw⟩ := h qs hq1
        cases ho' with
        | nil => simp at hq2
        | cons h0 hbu hp =>
          rename_i k o' b ks os
          have hk : k = i := by simpa using hq2
          subst hk
          have e1 : l.toArray[k]? = some o' := by simpa using h0.get
          rw [ho] at e1
          cases e1
          subst hbu
          exact ⟨os, hp, hw⟩
      generalize hps : (pss.filter fun p => p.head? == some i).map List.tail = qss at hone hb key
      unfold wpOp
      simp only [ho]
      unfold oneB at hone
      rw [Bool.or_eq_true] at hone
      unfold wpListU at key
      have hne : 1 ≤ qss.length := by
        rcases hone with h1 | h1
        · have := of_decide_eq_true h1; omega
        · rw [Bool.and_eq_true] at h1
          exact of_decide_eq_true h1.2
      obtain ⟨q0, hq0⟩ : ∃ q, q ∈ qss := by
        match qss, hne with
        | q :: _, _ => exact ⟨q, by simp⟩
      by_cases hw : Region.wanted o (yielded l.toArray a.tmps) = true
      · simp only [hw, if_true] at key ⊢
        left
        rcases hone with h1 | h1
        · have h1 := of_decide_eq_true h1
          obtain ⟨q, rfl⟩ : ∃ q, qss = [q] := by
            match qss, h1 with
            | [q], _ => exact ⟨q, rfl⟩
          obtain ⟨os, e2, e3⟩ := key q (by simp)
          exact Oper.wp_mono (fun a' w' h' => ⟨h'.1, ih _ _ a' w' hb (fun ps hp => by
            obtain rfl : ps = q := by simpa using hp
            exact ⟨os, e2, h'.2⟩)⟩) e3
        · rw [Bool.and_eq_true, ho] at h1
          simp only [Option.map_some, Option.getD_some] at h1
          obtain ⟨hl, h1⟩ := h1
          unfold Oper.wp at key ⊢
          rcases light_run (P := P) (ρ := a.eval) w hl with ⟨u, w', e⟩ | ⟨x, w', e⟩
          · rw [e] at key ⊢
            obtain ⟨os, _, e3⟩ := key q0 hq0
            refine ⟨e3.1, ih _ _ _ _ hb (fun ps hp => ?_)⟩
            obtain ⟨os, e2, e3⟩ := key ps hp
            exact ⟨os, e2, e3.2⟩
          · rw [e] at key ⊢
            obtain ⟨os, _, e3⟩ := key q0 hq0
            cases x <;> exact e3
      · simp only [hw, Bool.false_eq_true, if_false] at key ⊢
        obtain ⟨os, _, e3⟩ := key q0 hq0
        refine ⟨e3.1, ih _ _ _ _ hb (fun ps hp => ?_)⟩
        obtain ⟨os, e2, e3⟩ := key ps hp
        exact ⟨os, e2, e3.2⟩
/-- the late ones wait for number k -/
def waitsB (md : Region.Mode) (ops : Array Oper) (U : Nat → Bool) (k : Nat) : Bool := (List.range ops.size).all fun j => !U j || ((ops[j]?).map fun o => o.after.any fun e => Region.binds md e && decide (e.on = k)).getD true
def takenU (md : Region.Mode) (ops : Array Oper) (U : Nat → Bool) (n : Nat) (pss : List (List Nat)) : List Nat → Array Bool → Bool
  | [], listed => pathsB md ops n listed pss
  | k :: hs, listed => (Region.ready md ops listed).contains k && Region.free md ops listed k && ((ops[k]?).map calmL).getD false && waitsB md ops U k && takenU md ops U n pss hs (listed.setIfInBounds k true)
theorem wpAny_takenU {C : World → Prop} (hs : Region.noSelect l.toArray = true) (hQ : ∀ c a (d : Nat) v w, Q (.panic c) (Act.put a (some d) v) w → Q (.panic c) a w) (n : Nat) (pss : List (List Nat)) (oss : List (List (Oper × Bool))) (hk : PickAllU l U pss oss) : ∀ (hds : List Nat) (os : List Oper) (listed : Array Bool) (a : Act) (w : World), Picks l hds os → takenU md l.toArray U n pss hds listed = true → C w →
    wpQuiet P l.toArray C (fun a' => EachU (fun ks' => wpListU P l.toArray Q C ks' a' w) oss) os a → wpAnyU P md l.toArray Q C U (hds.length + n) listed a w := by
  intro hds
  induction hds with
  | nil =>
    intro os listed a w hp hB hC h
    cases hp
    rw [List.length_nil, Nat.zero_add]
    refine wpAnyU_paths n listed pss a w hB (fun ps hps => ?_)
    obtain ⟨os, ho, hp⟩ := hk.get ps hps
    exact ⟨os, hp, EachU.all h os ho⟩
  | cons k hds ih =>
    intro os listed a w hp hB hC h
    cases hp with
    | cons h0' hp =>
      rename_i o os
      have h0 : l.toArray[k]? = some o := by simpa using h0'.get
      simp only [takenU, Bool.and_eq_true, h0, Option.map_some, Option.getD_some] at hB
      obtain ⟨⟨⟨⟨hr, hf⟩, hpl⟩, hwt⟩, hB'⟩ := hB
      rw [List.length_cons, Nat.add_right_comm]
      have hU : ∀ j oj, l.toArray[j]? = some oj → U j = true → ∃ e ∈ oj.after, Region.binds md e = true ∧ e.on = k := by
        intro j oj hj hu
        unfold waitsB at hwt
        have hjl : j < l.toArray.size := by
          rcases Nat.lt_or_ge j l.toArray.size with h' | h'
          · exact h'
          · rw [Array.getElem?_eq_none h'] at hj; cases hj
        have h1 := List.all_eq_true.1 hwt j (List.mem_range.2 hjl)
        rw [hu, hj] at h1
        simp only [Bool.not_true, Bool.false_or, Option.map_some, Option.getD_some] at h1
        obtain ⟨e, he, h2⟩ := Array.any_eq_true'.1 h1
        rw [Bool.and_eq_true] at h2
        exact ⟨e, he, h2.1, of_decide_eq_true h2.2⟩
      unfold wpQuiet at h
      by_cases hw : Region.wanted o (yielded l.toArray a.tmps) = true
      · rw [if_pos hw] at h
        obtain ⟨v, hy, hK⟩ := yields_in hpl hw h
        exact wpAnyU_first h0 (Region.noSelect_spec hs) (fun c a w h => hput (hQ c) a _ _ w h) hU _ _ _ _ (Region.free_spec h0 hf) (by simpa using hr) hy hC (ih os _ _ w hp hB' hC hK)
      · rw [if_neg hw] at h
        exact wpAnyU_first h0 (Region.noSelect_spec hs) (fun c a w h => hput (hQ c) a _ _ w h) hU _ _ _ _ (Region.free_spec h0 hf) (by simpa using hr) (.inr ⟨by simpa using hw, rfl⟩) hC (ih os _ _ w hp hB' hC h)
theorem wp_region_U (S0 : World → Prop) {id : Nat} {a : Act} {w : World} (U : Nat → Bool) (n : Nat) (hds : List Nat) (pss : List (List Nat)) {os : List Oper} {oss : List (List (Oper × Bool))} (hm : P.follows .mixedOrders = true) (hl : hds.length + n = l.toArray.size) (hs : Region.noSelect l.toArray = true) (hB : takenU .any l.toArray U n pss hds (Array.replicate l.toArray.size false) = true) (hp : Picks l hds os) (hk : PickAllU l U pss oss)
    (hQ : ∀ c a (d : Nat) v w, Q (.panic c) (Act.put a (some d) v) w → Q (.panic c) a w) (hS : S0 w.drew) (h : wpQuiet P l.toArray (Pin S0 w.drew) (fun a' => EachU (fun ks' => wpListU P l.toArray Q (Pin S0 w.drew) ks' a' w.drew) oss) os a) : (Code.region id l.toArray true).wp P Q a w := by
  refine wp_region_any hm ?_
  have := wpAny_of_U _ _ _ _ (wpAny_takenU (P := P) (md := .any) (Q := Q) (C := Pin S0 w.drew) hs hQ n pss oss hk hds os _ a w.drew hp hB (pin_mem hS) h)
  rw [hl] at this
  exact this
end
/-! ### a tree of orders: what may be taken is taken, also behind an operation; what may come up in two ways forks -/
def Closed (md : Region.Mode) (ops : Array Oper) (listed : Array Bool) : Prop := ∀ (i : Nat) (o : Oper), ops[i]? = some o → listed.getD i true = true → ∀ e ∈ o.after, Region.binds md e = true → listed.getD e.on false = true
theorem getD_up {listed : Array Bool} {x j : Nat} (h : listed.getD x false = true) : (listed.setIfInBounds j true).getD x false = true := by
  by_cases e : j = x
  · subst e
    by_cases hj : j < listed.size
    · simp [hj]
    · simp [hj] at h
  · rw [Array.getD_eq_getD_getElem?, Array.getElem?_setIfInBounds_ne e, ← Array.getD_eq_getD_getElem?]
    exact h
theorem closed_set {md : Region.Mode} {ops : Array Oper} {listed : Array Bool} {j : Nat} (hc : Closed md ops listed) (hj : j ∈ Region.ready md ops listed) : Closed md ops (listed.setIfInBounds j true) := by
  intro i o hi hl e he hb
  obtain ⟨_, oj, hoj, hall⟩ := mem_ready.1 hj
  by_cases hij : j = i
  · subst hij
    rw [hi] at hoj
    cases hoj
    exact getD_up (hall e he hb)
  · rw [getD_set_ne true hij] at hl
    exact getD_up (hc i o hi hl e he hb)
theorem closed_start (md : Region.Mode) (ops : Array Oper) : Closed md ops (Array.replicate ops.size false) := by
  intro i o hi hl
  have h1 : i < ops.size := by
    rcases Nat.lt_or_ge i ops.size with h | h
    · exact h
    · rw [Array.getElem?_eq_none h] at hi; cases hi
  simp [h1] at hl
/-- operation j waits for number k, at once or through others -/
def chainB (md : Region.Mode) (ops : Array Oper) (k : Nat) : Nat → Nat → Bool
  | 0, _ => false
  | f + 1, j => ((ops[j]?).map fun o => o.after.any fun e => Region.binds md e && (decide (e.on = k) || chainB md ops k f e.on)).getD false
theorem chain_listed {md : Region.Mode} {ops : Array Oper} {listed : Array Bool} {k : Nat} (hc : Closed md ops listed) : ∀ (f j : Nat) (o : Oper), chainB md ops k f j = true → ops[j]? = some o → (∀ e ∈ o.after, Region.binds md e = true → listed.getD e.on false = true) → listed.getD k false = true := by
  intro f
  induction f with
  | zero => intro j o h; cases h
  | succ f ih =>
    intro j o h ho hall
    unfold chainB at h
    rw [ho] at h
    simp only [Option.map_some, Option.getD_some] at h
    obtain ⟨e, he, h2⟩ := Array.any_eq_true'.1 h
    rw [Bool.and_eq_true, Bool.or_eq_true] at h2
    have h3 := hall e he h2.1
    rcases h2.2 with h4 | h4
    · rw [← of_decide_eq_true h4]
      exact h3
    · cases hoe : ops[e.on]? with
      | none =>
        cases f with
        | zero => cases h4
        | succ f => unfold chainB at h4; rw [hoe] at h4; cases h4
      | some oe =>
        refine ih e.on oe h4 hoe (hc e.on oe hoe ?_)
        rcases Nat.lt_or_ge e.on listed.size with h' | h'
        · simp [h'] at h3 ⊢; exact h3
        · simp [Array.getElem?_eq_none h'] at h3
inductive RT where
  | done : RT
  | take (ks : List Nat) (t : RT) : RT
  | step (i : Nat) (t : RT) : RT
  | fork (i : Nat) (t : RT) (j : Nat) (u : RT) : RT
  | fork3 (i : Nat) (t : RT) (j : Nat) (u : RT) (k : Nat) (v : RT) : RT
inductive RO where
  | done : RO
  | take (os : List Oper) (t : RO) : RO
  | step (o : Oper) (u : Bool) (t : RO) : RO
  | fork (o : Oper) (u : Bool) (t : RO) (o' : Oper) (u' : Bool) (t' : RO) : RO
  | fork3 (o : Oper) (u : Bool) (t : RO) (o' : Oper) (u' : Bool) (t' : RO) (o'' : Oper) (u'' : Bool) (t'' : RO) : RO
inductive PickT (l : List Oper) (U : Nat → Bool) : RT → RO → Prop
  | done : PickT l U .done .done
  | take {ks : List Nat} {os : List Oper} {t : RT} {t' : RO} : Picks l ks os → PickT l U t t' → PickT l U (.take ks t) (.take os t')
  | step {i : Nat} {o : Oper} {b : Bool} {t : RT} {t' : RO} : AtN l i o → U i = b → PickT l U t t' → PickT l U (.step i t) (.step o b t')
  | fork {i j : Nat} {o o' : Oper} {b b' : Bool} {t u : RT} {t' u' : RO} : AtN l i o → U i = b → PickT l U t t' → AtN l j o' → U j = b' → PickT l U u u' → PickT l U (.fork i t j u) (.fork o b t' o' b' u')
  | fork3 {i j k : Nat} {o o' o'' : Oper} {b b' b'' : Bool} {t u v : RT} {t' u' v' : RO} : AtN l i o → U i = b → PickT l U t t' → AtN l j o' → U j = b' → PickT l U u u' → AtN l k o'' → U k = b'' → PickT l U v v' → PickT l U (.fork3 i t j u k v) (.fork3 o b t' o' b' u' o'' b'' v')
def RT.n : RT → Nat
  | .done => 0
  | .take ks t => ks.length + t.n
  | .step _ t => t.n + 1
  | .fork _ t _ _ => t.n + 1
  | .fork3 _ t _ _ _ _ => t.n + 1
def lateB (md : Region.Mode) (ops : Array Oper) (U : Nat → Bool) (k : Nat) : Bool := (List.range ops.size).all fun j => !U j || chainB md ops k ops.size j
def takesB (md : Region.Mode) (ops : Array Oper) (U : Nat → Bool) : List Nat → Array Bool → Bool
  | [], _ => true
  | k :: hs, listed => (Region.ready md ops listed).contains k && Region.free md ops listed k && ((ops[k]?).map calmL).getD false && lateB md ops U k && takesB md ops U hs (listed.setIfInBounds k true)
def listAll (ks : List Nat) (listed : Array Bool) : Array Bool := ks.foldl (fun l k => l.setIfInBounds k true) listed
def checkT (md : Region.Mode) (ops : Array Oper) (U : Nat → Bool) : RT → Bool → Array Bool → Bool
  | .done, _, listed => (Region.ready md ops listed).isEmpty
  | .take ks t, ok, listed => ok && takesB md ops U ks listed && checkT md ops U t ok (listAll ks listed)
  | .step i t, ok, listed => decide (Region.ready md ops listed = [i]) && checkT md ops U t (ok && !U i) (listed.setIfInBounds i true)
  | .fork i t j u, ok, listed => decide (Region.ready md ops listed = [i, j]) && decide (t.n = u.n) && checkT md ops U t (ok && !U i) (listed.setIfInBounds i true) && checkT md ops U u (ok && !U j) (listed.setIfInBounds j true)
  | .fork3 i t j u k v, ok, listed => decide (Region.ready md ops listed = [i, j, k]) && decide (t.n = u.n) && decide (t.n = v.n) && checkT md ops U t (ok && !U i) (listed.setIfInBounds i true) && checkT md ops U u (ok && !U j) (listed.setIfInBounds j true) && checkT md ops U v (ok && !U k) (listed.setIfInBounds k true)
def stepT (P : Program) (ops : Array Oper) (Q : Exit → Act → World → Prop) (C : World → Prop) (o : Oper) (u : Bool) (K : Act → World → Prop) (a : Act) (w : World) : Prop :=
  if Region.wanted o (yielded ops a.tmps) = true then o.wp P a w (fun a' w' => (u = false → C w') ∧ K a' w') Q else (u = false → C w) ∧ K (a.put o.dst undef) w
def wpT (P : Program) (ops : Array Oper) (Q : Exit → Act → World → Prop) (C : World → Prop) : RO → Act → World → Prop
  | .done, a, w => Q .normal a w
  | .take os t, a, w => wpQuiet P ops C (fun a' => wpT P ops Q C t a' w) os a
  | .step o u t, a, w => stepT P ops Q C o u (wpT P ops Q C t) a w
  | .fork o u t o' u' t', a, w => stepT P ops Q C o u (wpT P ops Q C t) a w ∧ stepT P ops Q C o' u' (wpT P ops Q C t') a w
  | .fork3 o u t o' u' t' o'' u'' t'', a, w => stepT P ops Q C o u (wpT P ops Q C t) a w ∧ stepT P ops Q C o' u' (wpT P ops Q C t') a w ∧ stepT P ops Q C o'' u'' (wpT P ops Q C t'') a w
section
variable {P : Program} {md : Region.Mode} {l : List Oper} {Q : Exit → Act → World → Prop} {C : World → Prop} {U : Nat → Bool}
theorem wpAnyU_firstC {i : Nat} {oi : Oper} {v : Value} (hi : l.toArray[i]? = some oi) (hsel : ∀ (j : Nat) (o : Oper) cs b, l.toArray[j]? = some o → o.op ≠ .select cs b)
    (hQ : ∀ c a w, Q (.panic c) (a.put oi.dst v) w → Q (.panic c) a w) (hU : lateB md l.toArray U i = true) :
    ∀ (fuel : Nat) (listed : Array Bool) (a : Act) (w : World), Closed md l.toArray listed →
      (∀ j oj, l.toArray[j]? = some oj → j ≠ i → listed.getD j true = false → (∀ e ∈ oj.after, Region.binds md e = true → e.on ≠ i) → oi.apart l.toArray oj = true) →
      i ∈ Region.ready md l.toArray listed → YieldsIf P l.toArray C oi v a → C w →
      wpAnyU P md l.toArray Q C U fuel (listed.setIfInBounds i true) (a.put oi.dst v) w → wpAnyU P md l.toArray Q C U (fuel + 1) listed a w := by
  intro fuel
  induction fuel with
  | zero =>
    intro listed a w _ _ hr hy hS H
    refine ⟨fun h => (by rw [h] at hr; cases hr), fun j hj => ?_⟩
    by_cases hji : j = i
    · subst hji; exact hy.wpOp hi hS ⟨fun _ => hS, H⟩
    · have := ready_mono hj hji
      rw [H.1] at this
      cases this
  | succ fuel ih =>
    intro listed a w hcl hfree hr hy hS H
    refine ⟨fun h => (by rw [h] at hr; cases hr), fun j hj => ?_⟩
    by_cases hji : j = i
    · subst hji; exact hy.wpOp hi hS ⟨fun _ => hS, H⟩
    · have h1 := H.2 j (ready_mono hj hji)
      obtain ⟨hjun, oj, hoj, hall⟩ := mem_ready.1 hj
      have hun : ¬ listed.getD i false = true := fun h => by
        have h0 := (mem_ready.1 hr).1
        rcases Nat.lt_or_ge i listed.size with h' | h'
        · simp [h'] at h0 h; rw [h0] at h; cases h
        · simp [Array.getElem?_eq_none h'] at h
      have hnot : ∀ e ∈ oj.after, Region.binds md e = true → e.on ≠ i := fun e he hb heq => hun (by rw [← heq]; exact hall e he hb)
      have hjl : j < l.toArray.size := by
        rcases Nat.lt_or_ge j l.toArray.size with h' | h'
        · exact h'
        · rw [Array.getElem?_eq_none h'] at hoj; cases hoj
      have hUj : U j = false := by
        cases hu : U j with
        | false => rfl
        | true =>
          have h2 := List.all_eq_true.1 hU j (List.mem_range.2 hjl)
          rw [hu] at h2
          simp only [Bool.not_true, Bool.false_or] at h2
          exact absurd (chain_listed hcl _ j oj h2 hoj hall) hun
      have h2 := wpOp_putIf hoj (hfree j oj hoj hji hjun hnot) (fun cs b => hsel i oi cs b hi) (fun cs b => hsel j oj cs b hoj) hQ hy h1
      have hfree' : ∀ k ok, l.toArray[k]? = some ok → k ≠ i → (listed.setIfInBounds j true).getD k true = false →
          (∀ e ∈ ok.after, Region.binds md e = true → e.on ≠ i) → oi.apart l.toArray ok = true := fun k ok hk hki hun hno => by
        refine hfree k ok hk hki ?_ hno
        by_cases hjk : j = k
        · subst hjk; exact hjun
        · rw [getD_set_ne true hjk] at hun; exact hun
      refine wpOp_mono (fun a' w' h3 => ⟨fun _ => h3.2.1 hUj, ih (listed.setIfInBounds j true) a' w' (closed_set hcl hj) hfree' (ready_mono hr (Ne.symm hji)) h3.1 (h3.2.1 hUj) ?_⟩) h2
      rw [Array.setIfInBounds_comm _ _ hji]
      exact h3.2.2
theorem wpAnyU_takes (hs : Region.noSelect l.toArray = true) (hQ : ∀ c a (d : Nat) v w, Q (.panic c) (Act.put a (some d) v) w → Q (.panic c) a w) (n : Nat) (K : Act → World → Prop) : ∀ (ks : List Nat) (os : List Oper) (listed : Array Bool) (a : Act) (w : World), Picks l ks os → takesB md l.toArray U ks listed = true → Closed md l.toArray listed → C w →
    (∀ a', K a' w → Closed md l.toArray (listAll ks listed) → wpAnyU P md l.toArray Q C U n (listAll ks listed) a' w) →
    wpQuiet P l.toArray C (fun a' => K a' w) os a → wpAnyU P md l.toArray Q C U (ks.length + n) listed a w := by
  intro ks
  induction ks with
  | nil =>
    intro os listed a w hp hB hcl hC hk h
    cases hp
    rw [List.length_nil, Nat.zero_add]
    exact hk a h hcl
  | cons k ks ih =>
    intro os listed a w hp hB hcl hC hk h
    cases hp with
    | cons h0' hp =>
      rename_i o os
      have h0 : l.toArray[k]? = some o := by simpa using h0'.get
      simp only [takesB, Bool.and_eq_true, h0, Option.map_some, Option.getD_some] at hB
      obtain ⟨⟨⟨⟨hr, hf⟩, hpl⟩, hwt⟩, hB'⟩ := hB
      have hr' : k ∈ Region.ready md l.toArray listed := by simpa using hr
      rw [List.length_cons, Nat.add_right_comm]
      unfold wpQuiet at h
      by_cases hw : Region.wanted o (yielded l.toArray a.tmps) = true
      · rw [if_pos hw] at h
        obtain ⟨v, hy, hK⟩ := yields_in hpl hw h
        exact wpAnyU_firstC h0 (Region.noSelect_spec hs) (fun c a w h => hput (hQ c) a _ _ w h) hwt _ _ _ _ hcl (Region.free_spec h0 hf) hr' hy hC (ih os _ _ w hp hB' (closed_set hcl hr') hC hk hK)
      · rw [if_neg hw] at h
        exact wpAnyU_firstC h0 (Region.noSelect_spec hs) (fun c a w h => hput (hQ c) a _ _ w h) hwt _ _ _ _ hcl (Region.free_spec h0 hf) hr' (.inr ⟨by simpa using hw, rfl⟩) hC (ih os _ _ w hp hB' (closed_set hcl hr') hC hk h)
theorem stepT_op {o : Oper} {i : Nat} {K K' : Act → World → Prop} {a : Act} {w : World} (ho : l.toArray[i]? = some o) (hk : ∀ a' w', (U i = false → C w') → K a' w' → K' a' w') (h : stepT P l.toArray Q C o (U i) K a w) : wpOp P l.toArray Q i (fun a' w' => (U i = false → C w') ∧ K' a' w') a w := by
  unfold wpOp
  simp only [ho]
  unfold stepT at h
  by_cases hw : Region.wanted o (yielded l.toArray a.tmps) = true
  · rw [if_pos hw] at h
    simp only [hw, if_true]
    exact .inl (Oper.wp_mono (fun a' w' h' => ⟨h'.1, hk _ _ h'.1 h'.2⟩) h)
  · rw [if_neg hw] at h
    simp only [hw, Bool.false_eq_true, if_false]
    exact ⟨h.1, hk _ _ h.1 h.2⟩
theorem wpAnyU_tree (hs : Region.noSelect l.toArray = true) (hQ : ∀ c a (d : Nat) v w, Q (.panic c) (Act.put a (some d) v) w → Q (.panic c) a w) : ∀ (t : RT) (t' : RO) (ok : Bool) (listed : Array Bool) (a : Act) (w : World), PickT l U t t' → checkT md l.toArray U t ok listed = true → Closed md l.toArray listed → (ok = true → C w) → wpT P l.toArray Q C t' a w → wpAnyU P md l.toArray Q C U t.n listed a w := by
  intro t
  induction t with
  | done =>
    intro t' ok listed a w hp hB hcl hC h
    cases hp
    exact ⟨List.isEmpty_iff.1 hB, h⟩
  | take ks t ih =>
    intro t' ok listed a w hp hB hcl hC h
    cases hp with
    | take hk hp =>
      simp only [checkT, Bool.and_eq_true] at hB
      exact wpAnyU_takes hs hQ t.n _ ks _ listed a w hk hB.1.2 hcl (hC hB.1.1) (fun a' h' hcl' => ih _ ok _ _ _ hp hB.2 hcl' hC h') h
  | step i t ih =>
    intro t' ok listed a w hp hB hcl hC h
    cases hp with
    | step h0 hb hp =>
      subst hb
      have ho := (show l.toArray[i]? = some _ by simpa using h0.get)
      simp only [checkT, Bool.and_eq_true, decide_eq_true_eq] at hB
      refine ⟨fun h1 => (by rw [hB.1] at h1; cases h1), fun j hj => ?_⟩
      have hj' := hj
      rw [hB.1] at hj
      obtain rfl : j = i := by simpa using hj
      refine stepT_op ho (fun a' w' h1 h2 => ih _ _ _ _ _ hp hB.2 (closed_set hcl hj') (fun hk => ?_) h2) h
      rw [Bool.and_eq_true] at hk
      exact h1 (by simpa using hk.2)
  | fork i t j u ih1 ih2 =>
    intro t' ok listed a w hp hB hcl hC h
    cases hp with
    | fork h0 hb hp h0' hb' hp' =>
      subst hb hb'
      have ho := (show l.toArray[i]? = some _ by simpa using h0.get)
      have ho' := (show l.toArray[j]? = some _ by simpa using h0'.get)
      simp only [checkT, Bool.and_eq_true, decide_eq_true_eq] at hB
      obtain ⟨⟨⟨hr, hn⟩, hB1⟩, hB2⟩ := hB
      refine ⟨fun h1 => (by rw [hr] at h1; cases h1), fun k hk => ?_⟩
      have hk' := hk
      rw [hr] at hk
      rcases (by simpa using hk : k = i ∨ k = j) with rfl | rfl
      · refine stepT_op ho (fun a' w' h1 h2 => ih1 _ _ _ _ _ hp hB1 (closed_set hcl hk') (fun hq => ?_) h2) h.1
        rw [Bool.and_eq_true] at hq
        exact h1 (by simpa using hq.2)
      · refine stepT_op ho' (fun a' w' h1 h2 => ?_) h.2
        have := ih2 _ _ _ _ _ hp' hB2 (closed_set hcl hk') (fun hq => by
          rw [Bool.and_eq_true] at hq
          exact h1 (by simpa using hq.2)) h2
        rw [← hn] at this
        exact this
  | fork3 i t j u k v ih1 ih2 ih3 =>
    intro t' ok listed a w hp hB hcl hC h
    cases hp with
    | fork3 h0 hb hp h0' hb' hp' h0'' hb'' hp'' =>
      subst hb hb' hb''
      have ho := (show l.toArray[i]? = some _ by simpa using h0.get)
      have ho' := (show l.toArray[j]? = some _ by simpa using h0'.get)
      have ho'' := (show l.toArray[k]? = some _ by simpa using h0''.get)
      simp only [checkT, Bool.and_eq_true, decide_eq_true_eq] at hB
      obtain ⟨⟨⟨⟨⟨hr, hn⟩, hn'⟩, hB1⟩, hB2⟩, hB3⟩ := hB
      refine ⟨fun h1 => (by rw [hr] at h1; cases h1), fun q hk => ?_⟩
      have hk' := hk
      rw [hr] at hk
      rcases (by simpa using hk : q = i ∨ q = j ∨ q = k) with rfl | rfl | rfl
      · refine stepT_op ho (fun a' w' h1 h2 => ih1 _ _ _ _ _ hp hB1 (closed_set hcl hk') (fun hq => ?_) h2) h.1
        rw [Bool.and_eq_true] at hq
        exact h1 (by simpa using hq.2)
      · refine stepT_op ho' (fun a' w' h1 h2 => ?_) h.2.1
        have := ih2 _ _ _ _ _ hp' hB2 (closed_set hcl hk') (fun hq => by
          rw [Bool.and_eq_true] at hq
          exact h1 (by simpa using hq.2)) h2
        rw [← hn] at this
        exact this
      · refine stepT_op ho'' (fun a' w' h1 h2 => ?_) h.2.2
        have := ih3 _ _ _ _ _ hp'' hB3 (closed_set hcl hk') (fun hq => by
          rw [Bool.and_eq_true] at hq
          exact h1 (by simpa using hq.2)) h2
        rw [← hn'] at this
        exact this
theorem wp_region_tree (S0 : World → Prop) {id : Nat} {a : Act} {w : World} (U : Nat → Bool) (t : RT) {t' : RO} (hm : P.follows .mixedOrders = true) (hl : t.n = l.toArray.size) (hs : Region.noSelect l.toArray = true) (hB : checkT .any l.toArray U t true (Array.replicate l.toArray.size false) = true) (hp : PickT l U t t')
    (hQ : ∀ c a (d : Nat) v w, Q (.panic c) (Act.put a (some d) v) w → Q (.panic c) a w) (hS : S0 w.drew) (h : wpT P l.toArray Q (Pin S0 w.drew) t' a w.drew) : (Code.region id l.toArray true).wp P Q a w := by
  refine wp_region_any hm ?_
  have := wpAny_of_U _ _ _ _ (wpAnyU_tree (P := P) (md := .any) (Q := Q) (C := Pin S0 w.drew) hs hQ t t' true _ a w.drew hp hB (closed_start _ _) (fun _ => pin_mem hS) h)
  rw [hl] at this
  exact this
/-- one step: what follows is a letter -/
theorem stepT_walk {o : Oper} {u : Bool} {K : Act → World → Prop} {a : Act} {w : World} {ops : Array Oper} (hw : Region.wanted o (yielded ops a.tmps) = true) (h : ∀ K' : Act → World → Prop, Hid (∀ a' w', (u = false → C w') → K a' w' → K' a' w') → o.wp P a w K' Q) : stepT P ops Q C o u K a w := by
  unfold stepT
  rw [if_pos hw]
  exact h _ (fun a' w' h1 h2 => ⟨h1, h2⟩)
theorem wpT_done {ops : Array Oper} {a : Act} {w : World} (h : Q .normal a w) : wpT P ops Q C .done a w := h
theorem wpT_take {ops : Array Oper} {os : List Oper} {t : RO} {a : Act} {w : World} (h : wpQuiet P ops C (fun a' => wpT P ops Q C t a' w) os a) : wpT P ops Q C (.take os t) a w := h
theorem wpT_step {ops : Array Oper} {o : Oper} {u : Bool} {t : RO} {a : Act} {w : World} (hg : o.guard = none) (h : ∀ K' : Act → World → Prop, Hid (∀ a' w', (u = false → C w') → wpT P ops Q C t a' w' → K' a' w') → o.wp P a w K' Q) : wpT P ops Q C (.step o u t) a w :=
  stepT_walk (by simp [Region.wanted, hg]) h
theorem wpT_fork3 {ops : Array Oper} {o o' o'' : Oper} {u u' u'' : Bool} {t t' t'' : RO} {a : Act} {w : World} (h : wpT P ops Q C (.step o u t) a w) (h' : wpT P ops Q C (.step o' u' t') a w) (h'' : wpT P ops Q C (.step o'' u'' t'') a w) : wpT P ops Q C (.fork3 o u t o' u' t' o'' u'' t'') a w := ⟨h, h', h''⟩
theorem wpT_fork {ops : Array Oper} {o o' : Oper} {u u' : Bool} {t t' : RO} {a : Act} {w : World} (h : wpT P ops Q C (.step o u t) a w) (h' : wpT P ops Q C (.step o' u' t') a w) : wpT P ops Q C (.fork o u t o' u' t') a w := ⟨h, h'⟩
end
end Go.Proofs.Ytihmmmodimionaa
