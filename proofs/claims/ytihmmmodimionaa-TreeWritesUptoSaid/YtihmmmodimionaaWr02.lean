/- What the claim leans on, part 2 of 16: RG B C D E F G H. -/
import Derived.OrdersHeld
import Derived.StillTailTactics
import Derived.WalkSpells
import Derived.Test.YtihmmmodimionaaShelf
import Derived.Test.YtihmmmodimionaaWr01
/- Regions that draw their order and end in stores: what reckons and what loads is taken first, while what is loaded stands as it stood; then each of a few orders one by one. No program is in sight. -/
namespace Go.Proofs.Ytihmmmodimionaa
open Go.RowKit (Hid)

section
variable {P : Program} {ops : Array Oper} {Q : Exit → Act → World → Prop} {md : Region.Mode} {S : World → Prop} {U : Nat → Bool}
/-- whichever order: behind each operation but the late ones, S -/
def wpAnyU (P : Program) (md : Region.Mode) (ops : Array Oper) (Q : Exit → Act → World → Prop) (S : World → Prop) (U : Nat → Bool) : Nat → Array Bool → Act → World → Prop
  | 0, listed, a, w => Region.ready md ops listed = [] ∧ Q .normal a w
  | fuel + 1, listed, a, w => (Region.ready md ops listed = [] → Q .normal a w) ∧
    ∀ i ∈ Region.ready md ops listed, wpOp P ops Q i (fun a' w' => (U i = false → S w') ∧ wpAnyU P md ops Q S U fuel (listed.setIfInBounds i true) a' w') a w
theorem wpAny_of_U : ∀ (fuel : Nat) (listed : Array Bool) (a : Act) (w : World), wpAnyU P md ops Q S U fuel listed a w → wpAny P md ops Q fuel listed a w
  | 0, _, _, _, h => h
  | fuel + 1, _, _, _, h => ⟨h.1, fun i hi => wpOp_mono (fun a' w' h' => wpAny_of_U fuel _ a' w' h'.2) (h.2 i hi)⟩
theorem wpAnyU_first {i : Nat} {oi : Oper} {v : Value} (hi : ops[i]? = some oi) (hsel : ∀ (j : Nat) (o : Oper) cs b, ops[j]? = some o → o.op ≠ .select cs b)
    (hQ : ∀ c a w, Q (.panic c) (a.put oi.dst v) w → Q (.panic c) a w)
    (hU : ∀ j oj, ops[j]? = some oj → U j = true → ∃ e ∈ oj.after, Region.binds md e = true ∧ e.on = i) :
    ∀ (fuel : Nat) (listed : Array Bool) (a : Act) (w : World),
      (∀ j oj, ops[j]? = some oj → j ≠ i → listed.getD j true = false → (∀ e ∈ oj.after, Region.binds md e = true → e.on ≠ i) → oi.apart ops oj = true) →
      i ∈ Region.ready md ops listed → YieldsIf P ops S oi v a → S w →
      wpAnyU P md ops Q S U fuel (listed.setIfInBounds i true) (a.put oi.dst v) w → wpAnyU P md ops Q S U (fuel + 1) listed a w := by
  intro fuel
  induction fuel with
  | zero =>
    intro listed a w _ hr hy hS H
    refine ⟨fun h => (by rw [h] at hr; cases hr), fun j hj => ?_⟩
    by_cases hji : j = i
    · subst hji; exact hy.wpOp hi hS ⟨fun _ => hS, H⟩
    · have := ready_mono hj hji
      rw [H.1] at this
      cases this
  | succ fuel ih =>
    intro listed a w hfree hr hy hS H
    refine ⟨fun h => (by rw [h] at hr; cases hr), fun j hj => ?_⟩
    by_cases hji : j = i
    · subst hji; exact hy.wpOp hi hS ⟨fun _ => hS, H⟩
    · have h1 := H.2 j (ready_mono hj hji)
      obtain ⟨hjun, oj, hoj, hall⟩ := mem_ready.1 hj
      have hnot : ∀ e ∈ oj.after, Region.binds md e = true → e.on ≠ i := fun e he hb heq => by
        have h1 := hall e he hb
        have h0 := (mem_ready.1 hr).1
        rw [heq] at h1
        rcases Nat.lt_or_ge i listed.size with h' | h'
        · simp [h'] at h0 h1; rw [h0] at h1; cases h1
        · simp [Array.getElem?_eq_none h'] at h1
      have hUj : U j = false := by
        cases hu : U j with
        | false => rfl
        | true =>
          obtain ⟨e, he, hb, heq⟩ := hU j oj hoj hu
          exact absurd heq (hnot e he hb)
      have h2 := wpOp_putIf hoj (hfree j oj hoj hji hjun hnot) (fun cs b => hsel i oi cs b hi) (fun cs b => hsel j oj cs b hoj) hQ hy h1
      have hfree' : ∀ k ok, ops[k]? = some ok → k ≠ i → (listed.setIfInBounds j true).getD k true = false →
          (∀ e ∈ ok.after, Region.binds md e = true → e.on ≠ i) → oi.apart ops ok = true := fun k ok hk hki hun hno => by
        refine hfree k ok hk hki ?_ hno
        by_cases hjk : j = k
        · subst hjk; exact hjun
        · rw [getD_set_ne true hjk] at hun; exact hun
      refine wpOp_mono (fun a' w' h3 => ⟨fun _ => h3.2.1 hUj, ih (listed.setIfInBounds j true) a' w' hfree' (ready_mono hr (Ne.symm hji)) h3.1 (h3.2.1 hUj) ?_⟩) h2
      rw [Array.setIfInBounds_comm _ _ hji]
      exact h3.2.2
end

/-- a world of the class, or the first one -/
noncomputable def pin (S : World → Prop) (w x : World) : World := by classical exact if S x then x else w
theorem pin_in {S : World → Prop} {w : World} (h : S w) (x : World) : S (pin S w x) := by
  unfold pin
  split
  · assumption
  · exact h
theorem pin_of {S : World → Prop} {w x : World} (h : S x) : x = pin S w x := by
  unfold pin
  rw [if_pos h]
abbrev Pin (S : World → Prop) (w : World) : World → Prop := fun w' => ∃ x, w' = pin S w x
theorem pin_mem {S : World → Prop} {w x : World} (h : S x) : Pin S w x := ⟨x, pin_of h⟩

def calmL (o : Oper) : Bool := calmB o || (match o.op with | .load .. => true | _ => false)
theorem calmL_run {P : Program} {o : Oper} {ρ : Operand → Value} (w : World) (hp : calmL o = true) : (∃ u w', (execOp ρ o).run P w = .ok (.value u) w') ∨ ∃ x w', (execOp ρ o).run P w = .halt x w' := by
  unfold calmL at hp
  rw [Bool.or_eq_true] at hp
  refine light_run w ?_
  unfold lightB
  rw [Bool.or_eq_true]
  rcases hp with hp | hp
  · exact .inl hp
  · refine .inr ?_
    split at hp
    · rename_i ho; rw [ho]
    · cases hp
theorem yields_in {P : Program} {ops : Array Oper} {C : World → Prop} {o : Oper} {a : Act} {K : Act → Prop} (hp : calmL o = true) (hw : Region.wanted o (yielded ops a.tmps) = true) (h : o.quiet P a C K) :
    ∃ v, YieldsIf P ops C o v a ∧ K (a.put o.dst v) := by
  obtain ⟨v, h1, h2⟩ := h
  refine ⟨v, .inl ⟨hw, fun w hC => ?_⟩, h2⟩
  have h3 := h1 w hC
  unfold Oper.quietAt at h3
  rcases calmL_run (P := P) (ρ := a.eval) w hp with ⟨u, w', e⟩ | ⟨x, w', e⟩
  · rw [e] at h3 ⊢
    obtain ⟨rfl, rfl⟩ := h3
    rfl
  · rw [e] at h3
    cases h3

/-- one by one; behind each but the late ones, S -/
def wpListU (P : Program) (ops : Array Oper) (Q : Exit → Act → World → Prop) (S : World → Prop) : List (Oper × Bool) → Act → World → Prop
  | [], a, w => Q .normal a w
  | (o, u) :: os, a, w => if Region.wanted o (yielded ops a.tmps) = true then o.wp P a w (fun a' w' => (u = false → S w') ∧ wpListU P ops Q S os a' w') Q else (u = false → S w) ∧ wpListU P ops Q S os (a.put o.dst undef) w
inductive PickU (l : List Oper) (U : Nat → Bool) : List Nat → List (Oper × Bool) → Prop
  | nil : PickU l U [] []
  | cons {k : Nat} {o : Oper} {b : Bool} {ks : List Nat} {os : List (Oper × Bool)} : AtN l k o → U k = b → PickU l U ks os → PickU l U (k :: ks) ((o, b) :: os)
inductive PickAllU (l : List Oper) (U : Nat → Bool) : List (List Nat) → List (List (Oper × Bool)) → Prop
  | nil : PickAllU l U [] []
  | cons {ps : List Nat} {os : List (Oper × Bool)} {pss : List (List Nat)} {oss : List (List (Oper × Bool))} : PickU l U ps os → PickAllU l U pss oss → PickAllU l U (ps :: pss) (os :: oss)
theorem PickAllU.get {l : List Oper} {U : Nat → Bool} {pss : List (List Nat)} {oss : List (List (Oper × Bool))} (h : PickAllU l U pss oss) : ∀ ps ∈ pss, ∃ os ∈ oss, PickU l U ps os := by
  induction h with
  | nil => intro ps h; cases h
  | cons h1 _ ih =>
    intro ps hp
    rcases List.mem_cons.1 hp with rfl | hp
    · exact ⟨_, by simp, h1⟩
    · obtain ⟨os, ho, hk⟩ := ih ps hp
      exact ⟨os, by simp [ho], hk⟩
def EachU (p : List (Oper × Bool) → Prop) : List (List (Oper × Bool)) → Prop
  | [] => True
  | [x] => p x
  | x :: xs => p x ∧ EachU p xs
theorem EachU.one {p : List (Oper × Bool) → Prop} {x : List (Oper × Bool)} (h : p x) : EachU p [x] := h
theorem EachU.all {p : List (Oper × Bool) → Prop} : ∀ {xs : List (List (Oper × Bool))}, EachU p xs → ∀ x ∈ xs, p x := by
  intro xs
  induction xs with
  | nil => intro _ x hx; cases hx
  | cons y ys ih =>
    intro h x hx
    cases ys with
    | nil =>
      obtain rfl : x = y := by simpa using hx
      exact h
    | cons z zs =>
      rcases List.mem_cons.1 hx with rfl | hx
      · exact h.1
      · exact ih h.2 x hx
section
variable {P : Program} {md : Region.Mode} {l : List Oper} {Q : Exit → Act → World → Prop} {S : World → Prop} {U : Nat → Bool}
theorem wpAnyU_paths : ∀ (n : Nat) (listed : Array Bool) (pss : List (List Nat)) (a : Act) (w : World), pathsB md l.toArray n listed pss = true → (∀ ps ∈ pss, ∃ os, PickU l U ps os ∧ wpListU P l.toArray Q S os a w) → wpAnyU P md l.toArray Q S U n listed a w := by
  intro n
  induction n with
  | zero =>
    intro listed pss a w hB h
    simp only [pathsB, Bool.and_eq_true, List.isEmpty_iff] at hB
    obtain ⟨os, ho, hw⟩ := h [] (by simpa using hB.2)
    cases ho
    exact ⟨hB.1, hw⟩
  | succ n ih =>
    intro listed pss a w hB h
    unfold pathsB at hB
    by_cases he : (Region.ready md l.toArray listed).isEmpty = true
    · rw [if_pos he] at hB
      have he' := List.isEmpty_iff.1 he
      obtain ⟨os, ho, hw⟩ := h [] (by simpa using hB)
      cases ho
      exact ⟨fun _ => hw, fun i hi => by rw [he'] at hi; cases hi⟩
    · rw [if_neg he] at hB
      have he' : Region.ready md l.toArray listed ≠ [] := fun e => he (by rw [e]; rfl)
      refine ⟨fun e => absurd e he', fun i hi => ?_⟩
      have hb := List.all_eq_true.1 hB i hi
      rw [Bool.and_eq_true] at hb
      obtain ⟨hone, hb⟩ := hb
      obtain ⟨o, ho, _⟩ := (mem_ready.1 hi).2
      have key : ∀ ps ∈ (pss.filter fun p => p.head? == some i).map List.tail, ∃ os, PickU l U ps os ∧ wpListU P l.toArray Q S ((o, U i) :: os) a w := by
        intro ps hps
        obtain ⟨qs, hq, rfl⟩ := List.mem_map.1 hps
        obtain ⟨hq1, hq2⟩ := List.mem_filter.1 hq
        obtain ⟨os, ho', hw⟩ := h qs hq1
        cases ho' with
        | nil => simp at hq2
        | cons h0 hbu hp =>
          rename_i k o' b ks os
          have hk : k = i := by simpa using hq2
          subst hk
          have e1 : l.toArray[k]? = some o' := by simpa using h0.get
          rw [ho] at e1
          cases e1
          subst hbu
          exact ⟨os, hp, hw⟩
      generalize hps : (pss.filter fun p => p.head? == some i).map List.tail = qss at hone hb key
      unfold wpOp
      simp only [ho]
      unfold oneB at hone
      rw [Bool.or_eq_true] at hone
      unfold wpListU at key
      have hne : 1 ≤ qss.length := by
        rcases hone with h1 | h1
        · have := of_decide_eq_true h1; omega
        · rw [Bool.and_eq_true] at h1
          exact of_decide_eq_true h1.2
      obtain ⟨q0, hq0⟩ : ∃ q, q ∈ qss := by
        match qss, hne with
        | q :: _, _ => exact ⟨q, by simp⟩
      by_cases hw : Region.wanted o (yielded l.toArray a.tmps) = true
      · simp only [hw, if_true] at key ⊢
        left
        rcases hone with h1 | h1
        · have h1 := of_decide_eq_true h1
          obtain ⟨q, rfl⟩ : ∃ q, qss = [q] := by
            match qss, h1 with
            | [q], _ => exact ⟨q, rfl⟩
          obtain ⟨os, e2, e3⟩ := key q (by simp)
          exact Oper.wp_mono (fun a' w' h' => ⟨h'.1, ih _ _ a' w' hb (fun ps hp => by
            obtain rfl : ps = q := by simpa using hp
            exact ⟨os, e2, h'.2⟩)⟩) e3
        · rw [Bool.and_eq_true, ho] at h1
          simp only [Option.map_some, Option.getD_some] at h1
          obtain ⟨hl, h1⟩ := h1
          unfold Oper.wp at key ⊢
          rcases light_run (P := P) (ρ := a.eval) w hl with ⟨u, w', e⟩ | ⟨x, w', e⟩
          · rw [e] at key ⊢
            obtain ⟨os, _, e3⟩ := key q0 hq0
            refine ⟨e3.1, ih _ _ _ _ hb (fun ps hp => ?_)⟩
            obtain ⟨os, e2, e3⟩ := key ps hp
            exact ⟨os, e2, e3.2⟩
          · rw [e] at key ⊢
            obtain ⟨os, _, e3⟩ := key q0 hq0
            cases x <;> exact e3
      · simp only [hw, Bool.false_eq_true, if_false] at key ⊢
        obtain ⟨os, _, e3⟩ := key q0 hq0
        refine ⟨e3.1, ih _ _ _ _ hb (fun ps hp => ?_)⟩
        obtain ⟨os, e2, e3⟩ := key ps hp
        exact ⟨os, e2, e3.2⟩
/-- the late ones wait for number k -/
def waitsB (md : Region.Mode) (ops : Array Oper) (U : Nat → Bool) (k : Nat) : Bool := (List.range ops.size).all fun j => !U j || ((ops[j]?).map fun o => o.after.any fun e => Region.binds md e && decide (e.on = k)).getD true
def takenU (md : Region.Mode) (ops : Array Oper) (U : Nat → Bool) (n : Nat) (pss : List (List Nat)) : List Nat → Array Bool → Bool
  | [], listed => pathsB md ops n listed pss
  | k :: hs, listed => (Region.ready md ops listed).contains k && Region.free md ops listed k && ((ops[k]?).map calmL).getD false && waitsB md ops U k && takenU md ops U n pss hs (listed.setIfInBounds k true)
theorem wpAny_takenU {C : World → Prop} (hs : Region.noSelect l.toArray = true) (hQ : ∀ c a (d : Nat) v w, Q (.panic c) (Act.put a (some d) v) w → Q (.panic c) a w) (n : Nat) (pss : List (List Nat)) (oss : List (List (Oper × Bool))) (hk : PickAllU l U pss oss) : ∀ (hds : List Nat) (os : List Oper) (listed : Array Bool) (a : Act) (w : World), Picks l hds os → takenU md l.toArray U n pss hds listed = true → C w →
    wpQuiet P l.toArray C (fun a' => EachU (fun ks' => wpListU P l.toArray Q C ks' a' w) oss) os a → wpAnyU P md l.toArray Q C U (hds.length + n) listed a w := by
  intro hds
  induction hds with
  | nil =>
    intro os listed a w hp hB hC h
    cases hp
    rw [List.length_nil, Nat.zero_add]
    refine wpAnyU_paths n listed pss a w hB (fun ps hps => ?_)
    obtain ⟨os, ho, hp⟩ := hk.get ps hps
    exact ⟨os, hp, EachU.all h os ho⟩
  | cons k hds ih =>
    intro os listed a w hp hB hC h
    cases hp with
    | cons h0' hp =>
      rename_i o os
      have h0 : l.toArray[k]? = some o := by simpa using h0'.get
      simp only [takenU, Bool.and_eq_true, h0, Option.map_some, Option.getD_some] at hB
      obtain ⟨⟨⟨⟨hr, hf⟩, hpl⟩, hwt⟩, hB'⟩ := hB
      rw [List.length_cons, Nat.add_right_comm]
      have hU : ∀ j oj, l.toArray[j]? = some oj → U j = true → ∃ e ∈ oj.after, Region.binds md e = true ∧ e.on = k := by
        intro j oj hj hu
        unfold waitsB at hwt
        have hjl : j < l.toArray.size := by
          rcases Nat.lt_or_ge j l.toArray.size with h' | h'
          · exact h'
          · rw [Array.getElem?_eq_none h'] at hj; cases hj
        have h1 := List.all_eq_true.1 hwt j (List.mem_range.2 hjl)
        rw [hu, hj] at h1
        simp only [Bool.not_true, Bool.false_or, Option.map_some, Option.getD_some] at h1
        obtain ⟨e, he, h2⟩ := Array.any_eq_true'.1 h1
        rw [Bool.and_eq_true] at h2
        exact ⟨e, he, h2.1, of_decide_eq_true h2.2⟩
      unfold wpQuiet at h
      by_cases hw : Region.wanted o (yielded l.toArray a.tmps) = true
      · rw [if_pos hw] at h
        obtain ⟨v, hy, hK⟩ := yields_in hpl hw h
        exact wpAnyU_first h0 (Region.noSelect_spec hs) (fun c a w h => hput (hQ c) a _ _ w h) hU _ _ _ _ (Region.free_spec h0 hf) (by simpa using hr) hy hC (ih os _ _ w hp hB' hC hK)
      · rw [if_neg hw] at h
        exact wpAnyU_first h0 (Region.noSelect_spec hs) (fun c a w h => hput (hQ c) a _ _ w h) hU _ _ _ _ (Region.free_spec h0 hf) (by simpa using hr) (.inr ⟨by simpa using hw, rfl⟩) hC (ih os _ _ w hp hB' hC h)
theorem wp_region_U (S0 : World → Prop) {id : Nat} {a : Act} {w : World} (U : Nat → Bool) (n : Nat) (hds : List Nat) (pss : List (List Nat)) {os : List Oper} {oss : List (List (Oper × Bool))} (hm : P.follows .mixedOrders = true) (hl : hds.length + n = l.toArray.size) (hs : Region.noSelect l.toArray = true) (hB : takenU .any l.toArray U n pss hds (Array.replicate l.toArray.size false) = true) (hp : Picks l hds os) (hk : PickAllU l U pss oss)
    (hQ : ∀ c a (d : Nat) v w, Q (.panic c) (Act.put a (some d) v) w → Q (.panic c) a w) (hS : S0 w.drew) (h : wpQuiet P l.toArray (Pin S0 w.drew) (fun a' => EachU (fun ks' => wpListU P l.toArray Q (Pin S0 w.drew) ks' a' w.drew) oss) os a) : (Code.region id l.toArray true).wp P Q a w := by
  refine wp_region_any hm ?_
  have := wpAny_of_U _ _ _ _ (wpAny_takenU (P := P) (md := .any) (Q := Q) (C := Pin S0 w.drew) hs hQ n pss oss hk hds os _ a w.drew hp hB (pin_mem hS) h)
  rw [hl] at this
  exact this
end
/-! ### a tree of orders: what may be taken is taken, also behind an operation; what may come up in two ways forks -/
def Closed (md : Region.Mode) (ops : Array Oper) (listed : Array Bool) : Prop := ∀ (i : Nat) (o : Oper), ops[i]? = some o → listed.getD i true = true → ∀ e ∈ o.after, Region.binds md e = true → listed.getD e.on false = true
theorem getD_up {listed : Array Bool} {x j : Nat} (h : listed.getD x false = true) : (listed.setIfInBounds j true).getD x false = true := by
  by_cases e : j = x
  · subst e
    by_cases hj : j < listed.size
    · simp [hj]
    · simp [hj] at h
  · rw [Array.getD_eq_getD_getElem?, Array.getElem?_setIfInBounds_ne e, ← Array.getD_eq_getD_getElem?]
    exact h
theorem closed_set {md : Region.Mode} {ops : Array Oper} {listed : Array Bool} {j : Nat} (hc : Closed md ops listed) (hj : j ∈ Region.ready md ops listed) : Closed md ops (listed.setIfInBounds j true) := by
  intro i o hi hl e he hb
  obtain ⟨_, oj, hoj, hall⟩ := mem_ready.1 hj
  by_cases hij : j = i
  · subst hij
    rw [hi] at hoj
    cases hoj
    exact getD_up (hall e he hb)
  · rw [getD_set_ne true hij] at hl
    exact getD_up (hc i o hi hl e he hb)
theorem closed_start (md : Region.Mode) (ops : Array Oper) : Closed md ops (Array.replicate ops.size false) := by
  intro i o hi hl
  have h1 : i < ops.size := by
    rcases Nat.lt_or_ge i ops.size with h | h
    · exact h
    · rw [Array.getElem?_eq_none h] at hi; cases hi
  simp [h1] at hl
/-- operation j waits for number k, at once or through others -/
def chainB (md : Region.Mode) (ops : Array Oper) (k : Nat) : Nat → Nat → Bool
  | 0, _ => false
  | f + 1, j => ((ops[j]?).map fun o => o.after.any fun e => Region.binds md e && (decide (e.on = k) || chainB md ops k f e.on)).getD false
theorem chain_listed {md : Region.Mode} {ops : Array Oper} {listed : Array Bool} {k : Nat} (hc : Closed md ops listed) : ∀ (f j : Nat) (o : Oper), chainB md ops k f j = true → ops[j]? = some o → (∀ e ∈ o.after, Region.binds md e = true → listed.getD e.on false = true) → listed.getD k false = true := by
  intro f
  induction f with
  | zero => intro j o h; cases h
  | succ f ih =>
    intro j o h ho hall
    unfold chainB at h
    rw [ho] at h
    simp only [Option.map_some, Option.getD_some] at h
    obtain ⟨e, he, h2⟩ := Array.any_eq_true'.1 h
    rw [Bool.and_eq_true, Bool.or_eq_true] at h2
    have h3 := hall e he h2.1
    rcases h2.2 with h4 | h4
    · rw [← of_decide_eq_true h4]
      exact h3
    · cases hoe : ops[e.on]? with
      | none =>
        cases f with
        | zero => cases h4
        | succ f => unfold chainB at h4; rw [hoe] at h4; cases h4
      | some oe =>
        refine ih e.on oe h4 hoe (hc e.on oe hoe ?_)
        rcases Nat.lt_or_ge e.on listed.size with h' | h'
        · simp [h'] at h3 ⊢; exact h3
        · simp [Array.getElem?_eq_none h'] at h3
inductive RT where
  | done : RT
  | take (ks : List Nat) (t : RT) : RT
  | step (i : Nat) (t : RT) : RT
  | fork (i : Nat) (t : RT) (j : Nat) (u : RT) : RT
  | fork3 (i : Nat) (t : RT) (j : Nat) (u : RT) (k : Nat) (v : RT) : RT
inductive RO where
  | done : RO
  | take (os : List Oper) (t : RO) : RO
  | step (o : Oper) (u : Bool) (t : RO) : RO
  | fork (o : Oper) (u : Bool) (t : RO) (o' : Oper) (u' : Bool) (t' : RO) : RO
  | fork3 (o : Oper) (u : Bool) (t : RO) (o' : Oper) (u' : Bool) (t' : RO) (o'' : Oper) (u'' : Bool) (t'' : RO) : RO
inductive PickT (l : List Oper) (U : Nat → Bool) : RT → RO → Prop
  | done : PickT l U .done .done
  | take {ks : List Nat} {os : List Oper} {t : RT} {t' : RO} : Picks l ks os → PickT l U t t' → PickT l U (.take ks t) (.take os t')
  | step {i : Nat} {o : Oper} {b : Bool} {t : RT} {t' : RO} : AtN l i o → U i = b → PickT l U t t' → PickT l U (.step i t) (.step o b t')
  | fork {i j : Nat} {o o' : Oper} {b b' : Bool} {t u : RT} {t' u' : RO} : AtN l i o → U i = b → PickT l U t t' → AtN l j o' → U j = b' → PickT l U u u' → PickT l U (.fork i t j u) (.fork o b t' o' b' u')
  | fork3 {i j k : Nat} {o o' o'' : Oper} {b b' b'' : Bool} {t u v : RT} {t' u' v' : RO} : AtN l i o → U i = b → PickT l U t t' → AtN l j o' → U j = b' → PickT l U u u' → AtN l k o'' → U k = b'' → PickT l U v v' → PickT l U (.fork3 i t j u k v) (.fork3 o b t' o' b' u' o'' b'' v')
def RT.n : RT → Nat
  | .done => 0
  | .take ks t => ks.length + t.n
  | .step _ t => t.n + 1
  | .fork _ t _ _ => t.n + 1
  | .fork3 _ t _ _ _ _ => t.n + 1
def lateB (md : Region.Mode) (ops : Array Oper) (U : Nat → Bool) (k : Nat) : Bool := (List.range ops.size).all fun j => !U j || chainB md ops k ops.size j
def takesB (md : Region.Mode) (ops : Array Oper) (U : Nat → Bool) : List Nat → Array Bool → Bool
  | [], _ => true
  | k :: hs, listed => (Region.ready md ops listed).contains k && Region.free md ops listed k && ((ops[k]?).map calmL).getD false && lateB md ops U k && takesB md ops U hs (listed.setIfInBounds k true)
def listAll (ks : List Nat) (listed : Array Bool) : Array Bool := ks.foldl (fun l k => l.setIfInBounds k true) listed
def checkT (md : Region.Mode) (ops : Array Oper) (U : Nat → Bool) : RT → Bool → Array Bool → Bool
  | .done, _, listed => (Region.ready md ops listed).isEmpty
  | .take ks t, ok, listed => ok && takesB md ops U ks listed && checkT md ops U t ok (listAll ks listed)
  | .step i t, ok, listed => decide (Region.ready md ops listed = [i]) && checkT md ops U t (ok && !U i) (listed.setIfInBounds i true)
  | .fork i t j u, ok, listed => decide (Region.ready md ops listed = [i, j]) && decide (t.n = u.n) && checkT md ops U t (ok && !U i) (listed.setIfInBounds i true) && checkT md ops U u (ok && !U j) (listed.setIfInBounds j true)
  | .fork3 i t j u k v, ok, listed => decide (Region.ready md ops listed = [i, j, k]) && decide (t.n = u.n) && decide (t.n = v.n) && checkT md ops U t (ok && !U i) (listed.setIfInBounds i true) && checkT md ops U u (ok && !U j) (listed.setIfInBounds j true) && checkT md ops U v (ok && !U k) (listed.setIfInBounds k true)
def stepT (P : Program) (ops : Array Oper) (Q : Exit → Act → World → Prop) (C : World → Prop) (o : Oper) (u : Bool) (K : Act → World → Prop) (a : Act) (w : World) : Prop :=
  if Region.wanted o (yielded ops a.tmps) = true then o.wp P a w (fun a' w' => (u = false → C w') ∧ K a' w') Q else (u = false → C w) ∧ K (a.put o.dst undef) w
def wpT (P : Program) (ops : Array Oper) (Q : Exit → Act → World → Prop) (C : World → Prop) : RO → Act → World → Prop
  | .done, a, w => Q .normal a w
  | .take os t, a, w => wpQuiet P ops C (fun a' => wpT P ops Q C t a' w) os a
  | .step o u t, a, w => stepT P ops Q C o u (wpT P ops Q C t) a w
  | .fork o u t o' u' t', a, w => stepT P ops Q C o u (wpT P ops Q C t) a w ∧ stepT P ops Q C o' u' (wpT P ops Q C t') a w
  | .fork3 o u t o' u' t' o'' u'' t'', a, w => stepT P ops Q C o u (wpT P ops Q C t) a w ∧ stepT P ops Q C o' u' (wpT P ops Q C t') a w ∧ stepT P ops Q C o'' u'' (wpT P ops Q C t'') a w
section
variable {P : Program} {md : Region.Mode} {l : List Oper} {Q : Exit → Act → World → Prop} {C : World → Prop} {U : Nat → Bool}
theorem wpAnyU_firstC {i : Nat} {oi : Oper} {v : Value} (hi : l.toArray[i]? = some oi) (hsel : ∀ (j : Nat) (o : Oper) cs b, l.toArray[j]? = some o → o.op ≠ .select cs b)
    (hQ : ∀ c a w, Q (.panic c) (a.put oi.dst v) w → Q (.panic c) a w) (hU : lateB md l.toArray U i = true) :
    ∀ (fuel : Nat) (listed : Array Bool) (a : Act) (w : World), Closed md l.toArray listed →
      (∀ j oj, l.toArray[j]? = some oj → j ≠ i → listed.getD j true = false → (∀ e ∈ oj.after, Region.binds md e = true → e.on ≠ i) → oi.apart l.toArray oj = true) →
      i ∈ Region.ready md l.toArray listed → YieldsIf P l.toArray C oi v a → C w →
      wpAnyU P md l.toArray Q C U fuel (listed.setIfInBounds i true) (a.put oi.dst v) w → wpAnyU P md l.toArray Q C U (fuel + 1) listed a w := by
  intro fuel
  induction fuel with
  | zero =>
    intro listed a w _ _ hr hy hS H
    refine ⟨fun h => (by rw [h] at hr; cases hr), fun j hj => ?_⟩
    by_cases hji : j = i
    · subst hji; exact hy.wpOp hi hS ⟨fun _ => hS, H⟩
    · have := ready_mono hj hji
      rw [H.1] at this
      cases this
  | succ fuel ih =>
    intro listed a w hcl hfree hr hy hS H
    refine ⟨fun h => (by rw [h] at hr; cases hr), fun j hj => ?_⟩
    by_cases hji : j = i
    · subst hji; exact hy.wpOp hi hS ⟨fun _ => hS, H⟩
    · have h1 := H.2 j (ready_mono hj hji)
      obtain ⟨hjun, oj, hoj, hall⟩ := mem_ready.1 hj
      have hun : ¬ listed.getD i false = true := fun h => by
        have h0 := (mem_ready.1 hr).1
        rcases Nat.lt_or_ge i listed.size with h' | h'
        · simp [h'] at h0 h; rw [h0] at h; cases h
        · simp [Array.getElem?_eq_none h'] at h
      have hnot : ∀ e ∈ oj.after, Region.binds md e = true → e.on ≠ i := fun e he hb heq => hun (by rw [← heq]; exact hall e he hb)
      have hjl : j < l.toArray.size := by
        rcases Nat.lt_or_ge j l.toArray.size with h' | h'
        · exact h'
        · rw [Array.getElem?_eq_none h'] at hoj; cases hoj
      have hUj : U j = false := by
        cases hu : U j with
        | false => rfl
        | true =>
          have h2 := List.all_eq_true.1 hU j (List.mem_range.2 hjl)
          rw [hu] at h2
          simp only [Bool.not_true, Bool.false_or] at h2
          exact absurd (chain_listed hcl _ j oj h2 hoj hall) hun
      have h2 := wpOp_putIf hoj (hfree j oj hoj hji hjun hnot) (fun cs b => hsel i oi cs b hi) (fun cs b => hsel j oj cs b hoj) hQ hy h1
      have hfree' : ∀ k ok, l.toArray[k]? = some ok → k ≠ i → (listed.setIfInBounds j true).getD k true = false →
          (∀ e ∈ ok.after, Region.binds md e = true → e.on ≠ i) → oi.apart l.toArray ok = true := fun k ok hk hki hun hno => by
        refine hfree k ok hk hki ?_ hno
        by_cases hjk : j = k
        · subst hjk; exact hjun
        · rw [getD_set_ne true hjk] at hun; exact hun
      refine wpOp_mono (fun a' w' h3 => ⟨fun _ => h3.2.1 hUj, ih (listed.setIfInBounds j true) a' w' (closed_set hcl hj) hfree' (ready_mono hr (Ne.symm hji)) h3.1 (h3.2.1 hUj) ?_⟩) h2
      rw [Array.setIfInBounds_comm _ _ hji]
      exact h3.2.2
theorem wpAnyU_takes (hs : Region.noSelect l.toArray = true) (hQ : ∀ c a (d : Nat) v w, Q (.panic c) (Act.put a (some d) v) w → Q (.panic c) a w) (n : Nat) (K : Act → World → Prop) : ∀ (ks : List Nat) (os : List Oper) (listed : Array Bool) (a : Act) (w : World), Picks l ks os → takesB md l.toArray U ks listed = true → Closed md l.toArray listed → C w →
    (∀ a', K a' w → Closed md l.toArray (listAll ks listed) → wpAnyU P md l.toArray Q C U n (listAll ks listed) a' w) →
    wpQuiet P l.toArray C (fun a' => K a' w) os a → wpAnyU P md l.toArray Q C U (ks.length + n) listed a w := by
  intro ks
  induction ks with
  | nil =>
    intro os listed a w hp hB hcl hC hk h
    cases hp
    rw [List.length_nil, Nat.zero_add]
    exact hk a h hcl
  | cons k ks ih =>
    intro os listed a w hp hB hcl hC hk h
    cases hp with
    | cons h0' hp =>
      rename_i o os
      have h0 : l.toArray[k]? = some o := by simpa using h0'.get
      simp only [takesB, Bool.and_eq_true, h0, Option.map_some, Option.getD_some] at hB
      obtain ⟨⟨⟨⟨hr, hf⟩, hpl⟩, hwt⟩, hB'⟩ := hB
      have hr' : k ∈ Region.ready md l.toArray listed := by simpa using hr
      rw [List.length_cons, Nat.add_right_comm]
      unfold wpQuiet at h
      by_cases hw : Region.wanted o (yielded l.toArray a.tmps) = true
      · rw [if_pos hw] at h
        obtain ⟨v, hy, hK⟩ := yields_in hpl hw h
        exact wpAnyU_firstC h0 (Region.noSelect_spec hs) (fun c a w h => hput (hQ c) a _ _ w h) hwt _ _ _ _ hcl (Region.free_spec h0 hf) hr' hy hC (ih os _ _ w hp hB' (closed_set hcl hr') hC hk hK)
      · rw [if_neg hw] at h
        exact wpAnyU_firstC h0 (Region.noSelect_spec hs) (fun c a w h => hput (hQ c) a _ _ w h) hwt _ _ _ _ hcl (Region.free_spec h0 hf) hr' (.inr ⟨by simpa using hw, rfl⟩) hC (ih os _ _ w hp hB' (closed_set hcl hr') hC hk h)
theorem stepT_op {o : Oper} {i : Nat} {K K' : Act → World → Prop} {a : Act} {w : World} (ho : l.toArray[i]? = some o) (hk : ∀ a' w', (U i = false → C w') → K a' w' → K' a' w') (h : stepT P l.toArray Q C o (U i) K a w) : wpOp P l.toArray Q i (fun a' w' => (U i = false → C w') ∧ K' a' w') a w := by
  unfold wpOp
  simp only [ho]
  unfold stepT at h
  by_cases hw : Region.wanted o (yielded l.toArray a.tmps) = true
  · rw [if_pos hw] at h
    simp only [hw, if_true]
    exact .inl (Oper.wp_mono (fun a' w' h' => ⟨h'.1, hk _ _ h'.1 h'.2⟩) h)
  · rw [if_neg hw] at h
    simp only [hw, Bool.false_eq_true, if_false]
    exact ⟨h.1, hk _ _ h.1 h.2⟩
theorem wpAnyU_tree (hs : Region.noSelect l.toArray = true) (hQ : ∀ c a (d : Nat) v w, Q (.panic c) (Act.put a (some d) v) w → Q (.panic c) a w) : ∀ (t : RT) (t' : RO) (ok : Bool) (listed : Array Bool) (a : Act) (w : World), PickT l U t t' → checkT md l.toArray U t ok listed = true → Closed md l.toArray listed → (ok = true → C w) → wpT P l.toArray Q C t' a w → wpAnyU P md l.toArray Q C U t.n listed a w := by
  intro t
  induction t with
  | done =>
    intro t' ok listed a w hp hB hcl hC h
    cases hp
    exact ⟨List.isEmpty_iff.1 hB, h⟩
  | take ks t ih =>
    intro t' ok listed a w hp hB hcl hC h
    cases hp with
    | take hk hp =>
      simp only [checkT, Bool.and_eq_true] at hB
      exact wpAnyU_takes hs hQ t.n _ ks _ listed a w hk hB.1.2 hcl (hC hB.1.1) (fun a' h' hcl' => ih _ ok _ _ _ hp hB.2 hcl' hC h') h
  | step i t ih =>
    intro t' ok listed a w hp hB hcl hC h
    cases hp with
    | step h0 hb hp =>
      subst hb
      have ho := (show l.toArray[i]? = some _ by simpa using h0.get)
      simp only [checkT, Bool.and_eq_true, decide_eq_true_eq] at hB
      refine ⟨fun h1 => (by rw [hB.1] at h1; cases h1), fun j hj => ?_⟩
      have hj' := hj
      rw [hB.1] at hj
      obtain rfl : j = i := by simpa using hj
      refine stepT_op ho (fun a' w' h1 h2 => ih _ _ _ _ _ hp hB.2 (closed_set hcl hj') (fun hk => ?_) h2) h
      rw [Bool.and_eq_true] at hk
      exact h1 (by simpa using hk.2)
  | fork i t j u ih1 ih2 =>
    intro t' ok listed a w hp hB hcl hC h
    cases hp with
    | fork h0 hb hp h0' hb' hp' =>
      subst hb hb'
      have ho := (show l.toArray[i]? = some _ by simpa using h0.get)
      have ho' := (show l.toArray[j]? = some _ by simpa using h0'.get)
      simp only [checkT, Bool.and_eq_true, decide_eq_true_eq] at hB
      obtain ⟨⟨⟨hr, hn⟩, hB1⟩, hB2⟩ := hB
      refine ⟨fun h1 => (by rw [hr] at h1; cases h1), fun k hk => ?_⟩
      have hk' := hk
      rw [hr] at hk
      rcases (by simpa using hk : k = i ∨ k = j) with rfl | rfl
      · refine stepT_op ho (fun a' w' h1 h2 => ih1 _ _ _ _ _ hp hB1 (closed_set hcl hk') (fun hq => ?_) h2) h.1
        rw [Bool.and_eq_true] at hq
        exact h1 (by simpa using hq.2)
      · refine stepT_op ho' (fun a' w' h1 h2 => ?_) h.2
        have := ih2 _ _ _ _ _ hp' hB2 (closed_set hcl hk') (fun hq => by
          rw [Bool.and_eq_true] at hq
          exact h1 (by simpa using hq.2)) h2
        rw [← hn] at this
        exact this
  | fork3 i t j u k v ih1 ih2 ih3 =>
    intro t' ok listed a w hp hB hcl hC h
    cases hp with
    | fork3 h0 hb hp h0' hb' hp' h0'' hb'' hp'' =>
      subst hb hb' hb''
      have ho := (show l.toArray[i]? = some _ by simpa using h0.get)
      have ho' := (show l.toArray[j]? = some _ by simpa using h0'.get)
      have ho'' := (show l.toArray[k]? = some _ by simpa using h0''.get)
      simp only [checkT, Bool.and_eq_true, decide_eq_true_eq] at hB
      obtain ⟨⟨⟨⟨⟨hr, hn⟩, hn'⟩, hB1⟩, hB2⟩, hB3⟩ := hB
      refine ⟨fun h1 => (by rw [hr] at h1; cases h1), fun q hk => ?_⟩
      have hk' := hk
      rw [hr] at hk
      rcases (by simpa using hk : q = i ∨ q = j ∨ q = k) with rfl | rfl | rfl
      · refine stepT_op ho (fun a' w' h1 h2 => ih1 _ _ _ _ _ hp hB1 (closed_set hcl hk') (fun hq => ?_) h2) h.1
        rw [Bool.and_eq_true] at hq
        exact h1 (by simpa using hq.2)
      · refine stepT_op ho' (fun a' w' h1 h2 => ?_) h.2.1
        have := ih2 _ _ _ _ _ hp' hB2 (closed_set hcl hk') (fun hq => by
          rw [Bool.and_eq_true] at hq
          exact h1 (by simpa using hq.2)) h2
        rw [← hn] at this
        exact this
      · refine stepT_op ho'' (fun a' w' h1 h2 => ?_) h.2.2
        have := ih3 _ _ _ _ _ hp'' hB3 (closed_set hcl hk') (fun hq => by
          rw [Bool.and_eq_true] at hq
          exact h1 (by simpa using hq.2)) h2
        rw [← hn'] at this
        exact this
theorem wp_region_tree (S0 : World → Prop) {id : Nat} {a : Act} {w : World} (U : Nat → Bool) (t : RT) {t' : RO} (hm : P.follows .mixedOrders = true) (hl : t.n = l.toArray.size) (hs : Region.noSelect l.toArray = true) (hB : checkT .any l.toArray U t true (Array.replicate l.toArray.size false) = true) (hp : PickT l U t t')
    (hQ : ∀ c a (d : Nat) v w, Q (.panic c) (Act.put a (some d) v) w → Q (.panic c) a w) (hS : S0 w.drew) (h : wpT P l.toArray Q (Pin S0 w.drew) t' a w.drew) : (Code.region id l.toArray true).wp P Q a w := by
  refine wp_region_any hm ?_
  have := wpAny_of_U _ _ _ _ (wpAnyU_tree (P := P) (md := .any) (Q := Q) (C := Pin S0 w.drew) hs hQ t t' true _ a w.drew hp hB (closed_start _ _) (fun _ => pin_mem hS) h)
  rw [hl] at this
  exact this
/-- one step: what follows is a letter -/
theorem stepT_walk {o : Oper} {u : Bool} {K : Act → World → Prop} {a : Act} {w : World} {ops : Array Oper} (hw : Region.wanted o (yielded ops a.tmps) = true) (h : ∀ K' : Act → World → Prop, Hid (∀ a' w', (u = false → C w') → K a' w' → K' a' w') → o.wp P a w K' Q) : stepT P ops Q C o u K a w := by
  unfold stepT
  rw [if_pos hw]
  exact h _ (fun a' w' h1 h2 => ⟨h1, h2⟩)
theorem wpT_done {ops : Array Oper} {a : Act} {w : World} (h : Q .normal a w) : wpT P ops Q C .done a w := h
theorem wpT_take {ops : Array Oper} {os : List Oper} {t : RO} {a : Act} {w : World} (h : wpQuiet P ops C (fun a' => wpT P ops Q C t a' w) os a) : wpT P ops Q C (.take os t) a w := h
theorem wpT_step {ops : Array Oper} {o : Oper} {u : Bool} {t : RO} {a : Act} {w : World} (hg : o.guard = none) (h : ∀ K' : Act → World → Prop, Hid (∀ a' w', (u = false → C w') → wpT P ops Q C t a' w' → K' a' w') → o.wp P a w K' Q) : wpT P ops Q C (.step o u t) a w :=
  stepT_walk (by simp [Region.wanted, hg]) h
theorem wpT_fork3 {ops : Array Oper} {o o' o'' : Oper} {u u' u'' : Bool} {t t' t'' : RO} {a : Act} {w : World} (h : wpT P ops Q C (.step o u t) a w) (h' : wpT P ops Q C (.step o' u' t') a w) (h'' : wpT P ops Q C (.step o'' u'' t'') a w) : wpT P ops Q C (.fork3 o u t o' u' t' o'' u'' t'') a w := ⟨h, h', h''⟩
theorem wpT_fork {ops : Array Oper} {o o' : Oper} {u u' : Bool} {t t' : RO} {a : Act} {w : World} (h : wpT P ops Q C (.step o u t) a w) (h' : wpT P ops Q C (.step o' u' t') a w) : wpT P ops Q C (.fork o u t o' u' t') a w := ⟨h, h'⟩
end
end Go.Proofs.Ytihmmmodimionaa
namespace Go.Proofs.Ytihmmmodimionaa.Lx
open Go.RowKit

abbrev RdR (w : World) (R : Nat) (b : ByteArray) (l c : Int) : Prop := w.heap[R]? = some (.cells #[.string b, .int .i64 l, .int .i64 c] 69 (0, 0))

set_option maxHeartbeats 1000000 in
theorem take_any (R : Nat) (b : ByteArray) (n : Nat) (l c : Int) (w : World) (hn : n ≤ b.size) (hl : 1 ≤ l) (hl2 : l + n ≤ 1000000) (hc : 1 ≤ c) (hc2 : c + n ≤ 1000000) (hr : RdR w R b l c) :
    Calls Try.prog 53 #[.pointer (some ⟨R, 0, none⟩), .int .i64 n] w fun e w' => e = .returned (.string (b.extract 0 n)) ∧ Only R w w' ∧ RdR w' R (b.extract n b.size) (adv ((T b).take n) l c).1 (adv ((T b).take n) l c).2 := by
  have p0 := cell_heap (j := 0) hr rfl
  have f0 := frozen_heap (j := 0) hr
  have HR := hide hr
  clear hr
  go_enter Try.func53, Try.ntmps53
  go_wp2
  have he := T_head b n
  have hes : (b.extract 0 n).size = n := by rw [size_T, he, List.length_take, T_len]; omega
  generalize hg1 : b.extract 0 n = e at *
  generalize hg2 : b.extract n b.size = rest at *
  have HG1 := hide hg1
  have HG2 := hide hg2
  clear hg1 hg2
  have HE := hide he
  have HS := hide hes
  clear he hes
  go_loopw [23] (fun j wr => ∃ k : Nat, k ≤ n ∧ j = .int .i64 k ∧ Only R w wr ∧ RdR wr R rest (adv ((T e).take k) l c).1 (adv ((T e).take k) l c).2) (fun j _ => n - (intOf j).toNat)
  case atStart => exact ⟨0, Nat.zero_le _, rfl, only_set (only_refl _ _) _ _, heap_set HR.out⟩
  case round =>
    obtain ⟨k, hk, rfl, ho, hrd⟩ := hrel
    have hbd := adv_bd ((T e).take k) l c hl hc
    rw [List.length_take] at hbd
    generalize hadv : adv ((T e).take k) l c = a at *
    obtain ⟨a1, a2⟩ := a
    obtain ⟨b1, b2, b3, b4⟩ := hbd
    have HA := hide hadv
    clear hadv
    simp only at b1 b2 b3 b4 hrd
    have q1 := cell_heap (j := 1) hrd rfl
    have q2 := cell_heap (j := 2) hrd rfl
    have g1 := frozen_heap (j := 1) hrd
    have g2 := frozen_heap (j := 2) hrd
    have HO := hide ho
    have HRD := hide hrd
    clear ho hrd
    have b5 : a1 ≤ l + k := by omega
    have b6 : a2 ≤ c + k := by omega
    clear b2 b4
    by_cases hlt : k < n
    · have hke : k < e.size := by rw [HS.out]; exact hlt
      have hsn := hide (adv_snoc ((T e).take k) e[k] l c)
      have ht := hide (T_take e k hke)
      by_cases h3 : e[k] = 10
      · have h3' : ((e[k].toNat : Int) == 10) = true := beq_it (by have := (eq10 _).1 h3; omega)
        have HH := hide h3
        clear h3
        go_wp2
        go_roundw
        case rel =>
          refine ⟨k + 1, by omega, by go_num, only_set (only_set (only_set HO.out _ _) _ _) _ _, ?_⟩
          rw [ht.out, hsn.out, if_pos HH.out, HA.out]
          exact heap_set (heap_set (heap_set HRD.out))
        case measure => simp [intOf]; omega
      · have h3' : ((e[k].toNat : Int) == 10) = false := beq_if (by intro e'; exact h3 ((eq10 _).2 (by omega)))
        have HH := hide h3
        clear h3
        go_wp2
        go_roundw
        case rel =>
          refine ⟨k + 1, by omega, by go_num, only_set HO.out _ _, ?_⟩
          rw [ht.out, hsn.out, if_neg HH.out, HA.out]
          exact heap_set HRD.out
        case measure => simp [intOf]; omega
    · have HK : Hid (k = n) := by show _ = _; omega
      go_wp2
      go_ret
      refine ⟨by rw [HG1.out]; rfl, HO.out, ?_⟩
      rw [HG2.out]
      rw [← HE.out, ← List.take_of_length_le (i := k) (show (T e).length ≤ k by rw [T_len, HS.out]; omega), HA.out]
      exact HRD.out
end Go.Proofs.Ytihmmmodimionaa.Lx
namespace Go.Proofs.Ytihmmmodimionaa.Lx
open Go.RowKit

theorem is10_at (b : ByteArray) (k : Nat) (h : k < b.size) : is10 ((T b).drop k) = ((b[k].toNat : Int) == 10) := by
  rw [T_drop b k h]
  unfold is10
  rw [Bool.eq_iff_iff]
  simp only [List.head?_cons, beq_iff_eq, Option.some.injEq]
  rw [eq10]; omega
theorem isEnd_at (b : ByteArray) (k : Nat) (h : k < b.size) : isEnd ((T b).drop k) = (decide (0 ≤ Lib.indexByte endB b[k]) || Lib.hasPrefix ((T b).drop k) [47, 42]) := by
  rw [T_drop b k h]
  rfl
theorem firstN_at (p : List UInt8 → Bool) (b : ByteArray) (k : Nat) (h : k < b.size) : firstN p ((T b).drop k) = if p ((T b).drop k) then 0 else firstN p ((T b).drop (k + 1)) + 1 := by
  rw [T_drop b k h, firstN]

/-- token$1: is a byte a 0A? (V: where the captured reader stands) -/
theorem clos_any (R V : Nat) (b : ByteArray) (i : Nat) (w : World) (hi : i < b.size) (hs : b.size ≤ 1000000) (hv : w.cell? ⟨V, 0, none⟩ = some (.pointer (some ⟨R, 0, none⟩))) (hr : w.cell? ⟨R, 0, none⟩ = some (.string b)) :
    Calls Try.prog 55 #[.int .i64 i, .pointer (some ⟨V, 0, none⟩)] w fun e w' => e = .returned (.bool (is10 ((T b).drop i))) ∧ w = w' := by
  have HX := hide (is10_at b i hi)
  go_enter Try.func55, Try.ntmps55
  go_wp2
  go_ret
  exact ⟨by rw [HX.out]; rfl, rfl⟩

theorem ends_any (R : Nat) (b : ByteArray) (i : Nat) (w : World) (hi : i < b.size) (hs : b.size ≤ 1000000) (hr : w.cell? ⟨R, 0, none⟩ = some (.string b)) :
    Calls Try.prog 59 #[.pointer (some ⟨R, 0, none⟩), .int .i64 i] w fun e w' => e = .returned (.bool (isEnd ((T b).drop i))) ∧ w = w' := by
  have HX := hide (isEnd_at b i hi)
  have h1 := Try.strings_IndexByte ⟨#[32, 10, 123, 125, 59, 91, 93, 34, 35]⟩ b[i].toNat w
  have e1 : Lib.indexByte (⟨#[32, 10, 123, 125, 59, 91, 93, 34, 35]⟩ : ByteArray).data.toList ((b[i].toNat : Int)).toNat.toUInt8 = Lib.indexByte endB b[i] := by
    congr 1
    simp
  have h2 := Try.strings_HasPrefix (b.extract i b.size) ⟨#[47, 42]⟩ w
  have e2 : Lib.hasPrefix (b.extract i b.size).data.toList (⟨#[47, 42]⟩ : ByteArray).data.toList = Lib.hasPrefix ((T b).drop i) [47, 42] := by
    rw [← T_tail]; rfl
  rw [e1] at h1
  rw [e2] at h2
  generalize Lib.indexByte endB b[i] = r at *
  generalize Lib.hasPrefix ((T b).drop i) [47, 42] = q at *
  have H1 := hide h1
  have H2 := hide h2
  clear h1 h2 e1 e2
  by_cases hr0 : 0 ≤ r
  · go_enter Try.func59, Try.ntmps59
    go_wp2_with fail
    refine H1.out.mono ?_; rintro e w1 ⟨rfl, rfl⟩
    go_wp2_with fail
    go_ret
    exact ⟨by rw [HX.out, decide_eq_true hr0]; rfl, rfl⟩
  · have hd : decide (0 ≤ r) = false := by simpa using hr0
    go_enter Try.func59, Try.ntmps59
    go_wp2_with fail
    refine H1.out.mono ?_; rintro e w1 ⟨rfl, rfl⟩
    go_wp2_with fail
    refine H2.out.mono ?_; rintro e w2 ⟨rfl, rfl⟩
    go_wp2_with fail
    go_ret
    exact ⟨by rw [HX.out, hd]; rfl, rfl⟩

set_option maxHeartbeats 1000000 in
theorem until1_any (R V : Nat) (b : ByteArray) (w : World) (hs : b.size ≤ 1000000) (hv : w.cell? ⟨V, 0, none⟩ = some (.pointer (some ⟨R, 0, none⟩))) (hr : w.cell? ⟨R, 0, none⟩ = some (.string b)) :
    Calls Try.prog 54 #[.pointer (some ⟨R, 0, none⟩), .func (.func 55) #[] #[.pointer (some ⟨V, 0, none⟩)]] w fun e w' => e = .returned (.int .i64 (firstN is10 (T b))) ∧ w = w' := by
  have HC := hide (fun i hi => clos_any R V b i w hi hs hv hr)
  go_enter Try.func54, Try.ntmps54
  go_wp2
  go_loop [5] (fun j => ∃ k : Nat, k ≤ b.size ∧ j = .int .i64 k ∧ firstN is10 (T b) = k + firstN is10 ((T b).drop k)) (fun j => b.size - (intOf j).toNat)
  case atStart => exact ⟨0, Nat.zero_le _, rfl, by simp⟩
  case round =>
    obtain ⟨k, hk, rfl, hf⟩ := hrel
    have HF := hide hf
    clear hf
    by_cases hlt : k < b.size
    · have hcl := HC.out k hlt
      have HN := hide (firstN_at is10 b k hlt)
      cases hx : is10 ((T b).drop k)
      · rw [hx] at hcl
        have HX := hide hx
        have HCl := hide hcl
        clear hcl hx
        go_wp2_with fail
        refine HCl.out.mono ?_; rintro e w1 ⟨rfl, rfl⟩
        go_wp2_with fail
        go_round
        case rel => exact ⟨k + 1, by omega, by go_num, by rw [HF.out, HN.out, HX.out]; simp; omega⟩
        case measure => simp [intOf]; omega
      · rw [hx] at hcl
        have HX := hide hx
        have HCl := hide hcl
        clear hcl hx
        go_wp2_with fail
        refine HCl.out.mono ?_; rintro e w1 ⟨rfl, rfl⟩
        go_wp2_with fail
        go_ret
        exact ⟨ret_int (by rw [HF.out, HN.out, HX.out]; simp), rfl⟩
    · go_wp2_with fail
      go_ret
      exact ⟨ret_int (by rw [HF.out, List.drop_eq_nil_of_le (by rw [T_len]; omega)]; simp [firstN]), rfl⟩

set_option maxHeartbeats 1000000 in
theorem until2_any (R : Nat) (b : ByteArray) (w : World) (hs : b.size ≤ 1000000) (hr : w.cell? ⟨R, 0, none⟩ = some (.string b)) :
    Calls Try.prog 54 #[.pointer (some ⟨R, 0, none⟩), .func (.func 59) #[.pointer (some ⟨R, 0, none⟩)] #[]] w fun e w' => e = .returned (.int .i64 (firstN isEnd (T b))) ∧ w = w' := by
  have HC := hide (fun i hi => ends_any R b i w hi hs hr)
  go_enter Try.func54, Try.ntmps54
  go_wp2
  go_loop [5] (fun j => ∃ k : Nat, k ≤ b.size ∧ j = .int .i64 k ∧ firstN isEnd (T b) = k + firstN isEnd ((T b).drop k)) (fun j => b.size - (intOf j).toNat)
  case atStart => exact ⟨0, Nat.zero_le _, rfl, by simp⟩
  case round =>
    obtain ⟨k, hk, rfl, hf⟩ := hrel
    have HF := hide hf
    clear hf
    by_cases hlt : k < b.size
    · have hcl := HC.out k hlt
      have HN := hide (firstN_at isEnd b k hlt)
      cases hx : isEnd ((T b).drop k)
      · rw [hx] at hcl
        have HX := hide hx
        have HCl := hide hcl
        clear hcl hx
        go_wp2_with fail
        refine HCl.out.mono ?_; rintro e w1 ⟨rfl, rfl⟩
        go_wp2_with fail
        go_round
        case rel => exact ⟨k + 1, by omega, by go_num, by rw [HF.out, HN.out, HX.out]; simp; omega⟩
        case measure => simp [intOf]; omega
      · rw [hx] at hcl
        have HX := hide hx
        have HCl := hide hcl
        clear hcl hx
        go_wp2_with fail
        refine HCl.out.mono ?_; rintro e w1 ⟨rfl, rfl⟩
        go_wp2_with fail
        go_ret
        exact ⟨ret_int (by rw [HF.out, HN.out, HX.out]; simp), rfl⟩
    · go_wp2_with fail
      go_ret
      exact ⟨ret_int (by rw [HF.out, List.drop_eq_nil_of_le (by rw [T_len]; omega)]; simp [firstN]), rfl⟩
end Go.Proofs.Ytihmmmodimionaa.Lx
namespace Go.Proofs.Ytihmmmodimionaa.Lx
open Go.RowKit

theorem take_int (R : Nat) (b : ByteArray) (m : Int) (n : Nat) (l c : Int) (w : World) (hm : m = n) (hn : n ≤ b.size) (hl : 1 ≤ l) (hl2 : l + n ≤ 1000000) (hc : 1 ≤ c) (hc2 : c + n ≤ 1000000) (hr : RdR w R b l c) :
    Calls Try.prog 53 #[.pointer (some ⟨R, 0, none⟩), .int .i64 m] w fun e w' => e = .returned (.string (b.extract 0 n)) ∧ Only R w w' ∧ RdR w' R (b.extract n b.size) (adv ((T b).take n) l c).1 (adv ((T b).take n) l c).2 := by
  subst hm
  exact take_any R b n l c w hn hl hl2 hc hc2 hr

abbrev TokR (w : World) (g : Nat) (k : Int) (t : ByteArray) (l c : Int) : Prop := w.heap[g]? = some (.cells #[.int .u8 k, .string t, .int .i64 l, .int .i64 c] 34 (0, 0))
/-- what stands while token runs: its own three blocks, the reader -/
structure TS (w : World) (R : Nat) (b : ByteArray) (l c l0 c0 : Int) (k : Int) (t : ByteArray) (wv : World) : Prop where
  v : wv.heap[w.heap.size]? = some (.cells #[.pointer (some ⟨R, 0, none⟩)] 67 (0, 0))
  z : TokR wv (w.heap.size + 1) 0 { data := #[] } 0 0
  t_ : TokR wv (w.heap.size + 2) k t l0 c0
  r : RdR wv R b l c
  o : Only R w wv
  lt : R < w.heap.size
theorem only_alloc {R : Nat} {a w : World} (h : Only R a w) (o : Obj) : Only R a (w.alloc o) :=
  ⟨h.os, h.tape, h.output, Nat.le_trans h.size (by simp), fun i hi hne => (Below.heap_alloc w o i (Nat.lt_of_lt_of_le hi h.size)).trans (h.block i hi hne)⟩
theorem only_trans {R : Nat} {a b c : World} (h : Only R a b) (k : Only R b c) : Only R a c :=
  ⟨k.os.trans h.os, k.tape.trans h.tape, k.output.trans h.output, Nat.le_trans h.size k.size, fun i hi hne => (k.block i (Nat.lt_of_lt_of_le hi h.size) hne).trans (h.block i hi hne)⟩
theorem only_drew {R : Nat} {a w : World} (h : Only R a w) : Only R a w.drew := ⟨h.os, h.tape, h.output, h.size, h.block⟩
theorem only_new {R g : Nat} {a w : World} (h : Only R a w) (hg : a.heap.size ≤ g) (j : Nat) (u : Value) : Only R a (w.setCell ⟨g, j, none⟩ u) :=
  ⟨h.os, h.tape, h.output, by simpa [World.setCell] using h.size, fun i hi hne => (Below.heap_setCell w ⟨g, j, none⟩ u i (by show i ≠ g; omega)).trans (h.block i hi hne)⟩

abbrev W3 (w : World) (R : Nat) (l c : Int) : World := ((w.alloc (Obj.cells #[.pointer (some ⟨R, 0, none⟩)] 67)).alloc (Obj.cells #[.int .u8 0, .string { data := #[] }, .int .i64 0, .int .i64 0] 34)).alloc (Obj.cells #[.int .u8 1, .string { data := #[] }, .int .i64 l, .int .i64 c] 34)
theorem ts_start (w : World) (R : Nat) (b : ByteArray) (l c : Int) (hr : RdR w R b l c) : TS w R b l c l c 1 { data := #[] } (W3 w R l c) := by
  refine ⟨heap_old (heap_old (heap_new _ _)), ?_, ?_, heap_old (heap_old (heap_old hr)), only_alloc (only_alloc (only_alloc (only_refl _ _) _) _) _, lt_heap hr⟩
  · exact heap_old (heap_new2 _ _ _)
  · have h := heap_new2 (w.alloc (Obj.cells #[.pointer (some ⟨R, 0, none⟩)] 67)) (Obj.cells #[.int .u8 0, .string { data := #[] }, .int .i64 0, .int .i64 0] 34) (Obj.cells #[.int .u8 1, .string { data := #[] }, .int .i64 l, .int .i64 c] 34)
    rwa [World.size_alloc] at h
/-- behind take -/
theorem TS.took {w : World} {R : Nat} {b b' : ByteArray} {l c l0 c0 k l' c' : Int} {t : ByteArray} {wv wx : World} (h : TS w R b l c l0 c0 k t wv) (ho : Only R wv wx) (hr : RdR wx R b' l' c') : TS w R b' l' c' l0 c0 k t wx :=
  ⟨only_heap ho h.v (by have := h.lt; omega), only_heap ho h.z (by have := h.lt; omega), only_heap ho h.t_ (by have := h.lt; omega), hr, only_trans h.o ho, h.lt⟩
theorem TS.drew {w : World} {R : Nat} {b : ByteArray} {l c l0 c0 k : Int} {t : ByteArray} {wv : World} (h : TS w R b l c l0 c0 k t wv) : TS w R b l c l0 c0 k t wv.drew := ⟨h.v, h.z, h.t_, h.r, only_drew h.o, h.lt⟩
/-- a store into the token's own block -/
theorem TS.set_t {w : World} {R : Nat} {b : ByteArray} {l c l0 c0 k : Int} {t : ByteArray} {wv : World} (h : TS w R b l c l0 c0 k t wv) (t' : ByteArray) : TS w R b l c l0 c0 k t' (wv.setCell ⟨w.heap.size + 2, 1, none⟩ (.string t')) := by
  have hlt := h.lt
  exact ⟨heap_far h.v (by simp), heap_far h.z (by simp), heap_set h.t_, heap_far h.r (by show R ≠ _; simp only; omega), only_new h.o (by simp) _ _, hlt⟩
theorem TS.set_k {w : World} {R : Nat} {b : ByteArray} {l c l0 c0 k : Int} {t : ByteArray} {wv : World} (h : TS w R b l c l0 c0 k t wv) (k' : Int) : TS w R b l c l0 c0 k' t (wv.setCell ⟨w.heap.size + 2, 0, none⟩ (.int .u8 k')) := by
  have hlt := h.lt
  exact ⟨heap_far h.v (by simp), heap_far h.z (by simp), heap_set h.t_, heap_far h.r (by show R ≠ _; simp only; omega), only_new h.o (by simp) _ _, hlt⟩
/-- the world behind the last store: the result's four cells -/
theorem TS.out {w : World} {R : Nat} {b : ByteArray} {l c l0 c0 k : Int} {t : ByteArray} {wv : World} (h : TS w R b l c l0 c0 k t wv) (u0 u1 u2 u3 : Value) :
    Only R w ((((wv.setCell ⟨w.heap.size + 1, 0, none⟩ u0).setCell ⟨w.heap.size + 1, 1, none⟩ u1).setCell ⟨w.heap.size + 1, 2, none⟩ u2).setCell ⟨w.heap.size + 1, 3, none⟩ u3) ∧ RdR ((((wv.setCell ⟨w.heap.size + 1, 0, none⟩ u0).setCell ⟨w.heap.size + 1, 1, none⟩ u1).setCell ⟨w.heap.size + 1, 2, none⟩ u2).setCell ⟨w.heap.size + 1, 3, none⟩ u3) R b l c := by
  have hlt := h.lt
  refine ⟨only_new (only_new (only_new (only_new h.o (by simp) _ _) (by simp) _ _) (by simp) _ _) (by simp) _ _, ?_⟩
  exact heap_far (heap_far (heap_far (heap_far h.r (by show R ≠ _; simp only; omega)) (by show R ≠ _; simp only; omega)) (by show R ≠ _; simp only; omega)) (by show R ≠ _; simp only; omega)

/-- what token leaves, by the plain step -/
def TokPost (R : Nat) (b : ByteArray) (l c : Int) (w : World) (e : Ending) (w' : World) : Prop :=
  Only R w w' ∧ (((step (T b)).err = true ∧ e = .returned (.tuple #[.agg #[.int .u8 1, .string { data := #[] }, .int .i64 l, .int .i64 c], .bool false, .int .i64 71])) ∨
    ((step (T b)).err = false ∧ ∃ tb b', T tb = (step (T b)).t ∧ T b' = (T b).drop (step (T b)).n ∧ e = .returned (.tuple #[.agg #[.int .u8 (step (T b)).k, .string tb, .int .i64 l, .int .i64 c], .bool (step (T b)).is, .int .i64 0]) ∧
      RdR w' R b' (adv ((T b).take (step (T b)).n) l c).1 (adv ((T b).take (step (T b)).n) l c).2))

set_option maxHeartbeats 1000000 in
theorem token_blank (R : Nat) (b : ByteArray) (l c : Int) (w : World) (hb0 : 0 < b.size) (hbs : b.size ≤ 65536) (hl : 1 ≤ l) (hl2 : l + b.size ≤ 1000000) (hc : 1 ≤ c) (hc2 : c + b.size ≤ 1000000) (hr : RdR w R b l c)
    (hx : (b[0].toNat : Int) = 32 ∨ (b[0].toNat : Int) = 10) (hst : step (T b) = ⟨false, false, 1, [], 1⟩) :
    Calls Try.prog 29 #[.pointer (some ⟨R, 0, none⟩)] w (TokPost R b l c w) := by
  have q0 := fun o => cell_heap (j := 0) (heap_old (p := o) hr) rfl
  have q1 := fun o o2 => cell_heap (j := 1) (heap_old (p := o2) (heap_old (p := o) hr)) rfl
  have q2 := fun o o2 => cell_heap (j := 2) (heap_old (p := o2) (heap_old (p := o) hr)) rfl
  have q3 := fun o o2 o3 => cell_heap (j := 0) (heap_old (p := o3) (heap_old (p := o2) (heap_old (p := o) hr))) rfl
  have HT0 := hide (ts_start w R b l c hr)
  have H0 := hide (fun W => Try.strings_IndexByte ⟨#[123, 125, 59, 91, 93]⟩ b[0].toNat W)
  have HST := hide hst
  clear hst
  rcases hx with hx | hx
  · have hx1 := beq_it hx
    clear hx
    clear hr
    go_enter Try.func29, Try.ntmps29
    go_wp2_with fail
    refine (H0.out _).mono ?_; rintro e w1 ⟨rfl, hw1⟩
    have HT1 := hide (show TS w R b l c l c 1 { data := #[] } w1 by rw [hw1]; exact HT0.out)
    clear hw1 q0 q1 q2 q3 HT0 H0
    have v0 := cell_heap (j := 0) HT1.out.v rfl
    have t0 := cell_heap (j := 0) HT1.out.t_ rfl
    have t1 := cell_heap (j := 1) HT1.out.t_ rfl
    have t2 := cell_heap (j := 2) HT1.out.t_ rfl
    have t3 := cell_heap (j := 3) HT1.out.t_ rfl
    have z0 := cell_heap (j := 0) HT1.out.z rfl
    have z1 := cell_heap (j := 1) HT1.out.z rfl
    have z2 := cell_heap (j := 2) HT1.out.z rfl
    have z3 := cell_heap (j := 3) HT1.out.z rfl
    have fz0 := frozen_heap (j := 0) HT1.out.z
    have fz1 := frozen_heap (j := 1) HT1.out.z
    have fz2 := frozen_heap (j := 2) HT1.out.z
    have fz3 := frozen_heap (j := 3) HT1.out.z
    have r0 := cell_heap (j := 0) HT1.out.r rfl
    go_wp2_with fail
    refine (take_int R b 1 1 l c w1 (by omega) (by omega) hl (by omega) hc (by omega) HT1.out.r).mono ?_; rintro e w2 ⟨rfl, ho, hr2⟩
    have HT2 := hide (HT1.out.took ho hr2)
    clear ho hr2 HT1
    clear v0 t0 t1 t2 t3 z0 z1 z2 z3 fz0 fz1 fz2 fz3 r0
    have v0 := cell_heap (j := 0) HT2.out.v rfl
    have t0 := cell_heap (j := 0) HT2.out.t_ rfl
    have t1 := cell_heap (j := 1) HT2.out.t_ rfl
    have t2 := cell_heap (j := 2) HT2.out.t_ rfl
    have t3 := cell_heap (j := 3) HT2.out.t_ rfl
    have z0 := cell_heap (j := 0) HT2.out.z rfl
    have z1 := cell_heap (j := 1) HT2.out.z rfl
    have z2 := cell_heap (j := 2) HT2.out.z rfl
    have z3 := cell_heap (j := 3) HT2.out.z rfl
    have fz0 := frozen_heap (j := 0) HT2.out.z
    have fz1 := frozen_heap (j := 1) HT2.out.z
    have fz2 := frozen_heap (j := 2) HT2.out.z
    have fz3 := frozen_heap (j := 3) HT2.out.z
    have r0 := cell_heap (j := 0) HT2.out.r rfl
    go_wp2_with fail
    refine bodyPost_ret (v := .tuple #[.agg #[.int .u8 1, .string { data := #[] }, .int .i64 l, .int .i64 c], .bool false, .int .i64 0]) (by simp [results, Try.results29, go_sem, z0, z1, z2, z3]) rfl ?_
    refine ⟨(HT2.out.out _ _ _ _).1, .inr ?_⟩
    rw [HST.out]
    exact ⟨rfl, _, _, rfl, T_tail b 1, rfl, (HT2.out.out _ _ _ _).2⟩
  · have hx1 := beq_it hx
    have hx2 : ((b[0].toNat : Int) == 32) = false := beq_if (by omega)
    clear hx
    clear hr
    go_enter Try.func29, Try.ntmps29
    go_wp2_with fail
    refine (H0.out _).mono ?_; rintro e w1 ⟨rfl, hw1⟩
    have HT1 := hide (show TS w R b l c l c 1 { data := #[] } w1 by rw [hw1]; exact HT0.out)
    clear hw1 q0 q1 q2 q3 HT0 H0
    have v0 := cell_heap (j := 0) HT1.out.v rfl
    have t0 := cell_heap (j := 0) HT1.out.t_ rfl
    have t1 := cell_heap (j := 1) HT1.out.t_ rfl
    have t2 := cell_heap (j := 2) HT1.out.t_ rfl
    have t3 := cell_heap (j := 3) HT1.out.t_ rfl
    have z0 := cell_heap (j := 0) HT1.out.z rfl
    have z1 := cell_heap (j := 1) HT1.out.z rfl
    have z2 := cell_heap (j := 2) HT1.out.z rfl
    have z3 := cell_heap (j := 3) HT1.out.z rfl
    have fz0 := frozen_heap (j := 0) HT1.out.z
    have fz1 := frozen_heap (j := 1) HT1.out.z
    have fz2 := frozen_heap (j := 2) HT1.out.z
    have fz3 := frozen_heap (j := 3) HT1.out.z
    have r0 := cell_heap (j := 0) HT1.out.r rfl
    go_wp2_with fail
    refine (take_int R b 1 1 l c w1 (by omega) (by omega) hl (by omega) hc (by omega) HT1.out.r).mono ?_; rintro e w2 ⟨rfl, ho, hr2⟩
    have HT2 := hide (HT1.out.took ho hr2)
    clear ho hr2 HT1
    clear v0 t0 t1 t2 t3 z0 z1 z2 z3 fz0 fz1 fz2 fz3 r0
    have v0 := cell_heap (j := 0) HT2.out.v rfl
    have t0 := cell_heap (j := 0) HT2.out.t_ rfl
    have t1 := cell_heap (j := 1) HT2.out.t_ rfl
    have t2 := cell_heap (j := 2) HT2.out.t_ rfl
    have t3 := cell_heap (j := 3) HT2.out.t_ rfl
    have z0 := cell_heap (j := 0) HT2.out.z rfl
    have z1 := cell_heap (j := 1) HT2.out.z rfl
    have z2 := cell_heap (j := 2) HT2.out.z rfl
    have z3 := cell_heap (j := 3) HT2.out.z rfl
    have fz0 := frozen_heap (j := 0) HT2.out.z
    have fz1 := frozen_heap (j := 1) HT2.out.z
    have fz2 := frozen_heap (j := 2) HT2.out.z
    have fz3 := frozen_heap (j := 3) HT2.out.z
    have r0 := cell_heap (j := 0) HT2.out.r rfl
    go_wp2_with fail
    refine bodyPost_ret (v := .tuple #[.agg #[.int .u8 1, .string { data := #[] }, .int .i64 l, .int .i64 c], .bool false, .int .i64 0]) (by simp [results, Try.results29, go_sem, z0, z1, z2, z3]) rfl ?_
    refine ⟨(HT2.out.out _ _ _ _).1, .inr ?_⟩
    rw [HST.out]
    exact ⟨rfl, _, _, rfl, T_tail b 1, rfl, (HT2.out.out _ _ _ _).2⟩

theorem index_bound (sub : List UInt8) : ∀ s : List UInt8, 0 ≤ Lib.index s sub → (Lib.index s sub).toNat + sub.length ≤ s.length := by
  intro s
  induction s with
  | nil =>
    intro h
    unfold Lib.index at h ⊢
    split at h
    · rename_i he
      rw [if_pos he]
      simp only [List.isEmpty_iff] at he
      subst he; simp
    · omega
  | cons x xs ih =>
    intro h
    unfold Lib.index at h ⊢
    split at h
    · rename_i hp
      rw [if_pos hp]
      have := (List.isPrefixOf_iff_prefix.1 hp).length_le
      simpa using this
    · rename_i hp
      rw [if_neg hp]
      have hge := Lib.index_ge xs sub
      split at h
      · omega
      · rename_i h1
        rw [if_neg h1]
        have h2 : ¬ Lib.index xs sub = -1 := by simpa using h1
        have := ih (by omega)
        simp only [List.length_cons]
        omega
theorem indexAny_bound (cs : List UInt8) : ∀ s : List UInt8, 0 ≤ Lib.indexAny s cs → (Lib.indexAny s cs).toNat < s.length := by
  intro s
  induction s with
  | nil => intro h; simp [Lib.indexAny] at h
  | cons x xs ih =>
    intro h
    unfold Lib.indexAny at h ⊢
    split at h
    · rename_i hp
      rw [if_pos hp]; simp
    · rename_i hp
      rw [if_neg hp]
      have hge := Lib.indexAny_ge cs xs
      split at h
      · omega
      · rename_i h1
        rw [if_neg h1]
        have h2 : ¬ Lib.indexAny xs cs = -1 := by simpa using h1
        have := ih (by omega)
        simp only [List.length_cons]
        omega
theorem only_cell {R : Nat} {w w' : World} (h : Only R w w') {g j : Nat} {u : Value} (hc : w.cell? ⟨g, j, none⟩ = some u) (hne : g ≠ R) : w'.cell? ⟨g, j, none⟩ = some u := by
  rw [World.cell?_of_block (w := w) (h.block g (lt_of_cell hc) (fun e => hne (by injection e)))]
  exact hc
theorem only_of_below {R : Nat} {w w' : World} (h : Below w.heap.size w w') : Only R w w' := ⟨h.os, h.tape, h.output, h.size, fun i hi _ => h.block i hi⟩

set_option maxRecDepth 100000 in
set_option maxHeartbeats 1000000 in
theorem token_hash (R : Nat) (b : ByteArray) (l c : Int) (w : World) (hb0 : 0 < b.size) (hbs : b.size ≤ 65536) (hl : 1 ≤ l) (hl2 : l + b.size ≤ 1000000) (hc : 1 ≤ c) (hc2 : c + b.size ≤ 1000000) (hr : RdR w R b l c)
    (hx : (b[0].toNat : Int) = 35) (hst : step (T b) = ⟨false, false, 1, [], firstN is10 (T b)⟩) :
    Calls Try.prog 29 #[.pointer (some ⟨R, 0, none⟩)] w (TokPost R b l c w) := by
  have q0 := fun o => cell_heap (j := 0) (heap_old (p := o) hr) rfl
  have q1 := fun o o2 => cell_heap (j := 1) (heap_old (p := o2) (heap_old (p := o) hr)) rfl
  have q2 := fun o o2 => cell_heap (j := 2) (heap_old (p := o2) (heap_old (p := o) hr)) rfl
  have q3 := fun o o2 o3 => cell_heap (j := 0) (heap_old (p := o3) (heap_old (p := o2) (heap_old (p := o) hr))) rfl
  have HT0 := hide (ts_start w R b l c hr)
  have H0 := hide (fun W => Try.strings_IndexByte ⟨#[123, 125, 59, 91, 93]⟩ b[0].toNat W)
  have HST := hide hst
  clear hst
  have hx1 : ((b[0].toNat : Int) == 32) = false := beq_if (by omega)
  have hx2 : ((b[0].toNat : Int) == 10) = false := beq_if (by omega)
  have hx3 := beq_it hx
  clear hx
  clear hr
  go_enter Try.func29, Try.ntmps29
  go_wp2_with fail
  refine (H0.out _).mono ?_; rintro e w1 ⟨rfl, hw1⟩
  have HT1 := hide (show TS w R b l c l c 1 { data := #[] } w1 by rw [hw1]; exact HT0.out)
  clear hw1 q0 q1 q2 q3 HT0 H0
  have v0 := cell_heap (j := 0) HT1.out.v rfl
  have t0 := cell_heap (j := 0) HT1.out.t_ rfl
  have t1 := cell_heap (j := 1) HT1.out.t_ rfl
  have t2 := cell_heap (j := 2) HT1.out.t_ rfl
  have t3 := cell_heap (j := 3) HT1.out.t_ rfl
  have z0 := cell_heap (j := 0) HT1.out.z rfl
  have z1 := cell_heap (j := 1) HT1.out.z rfl
  have z2 := cell_heap (j := 2) HT1.out.z rfl
  have z3 := cell_heap (j := 3) HT1.out.z rfl
  have fz0 := frozen_heap (j := 0) HT1.out.z
  have fz1 := frozen_heap (j := 1) HT1.out.z
  have fz2 := frozen_heap (j := 2) HT1.out.z
  have fz3 := frozen_heap (j := 3) HT1.out.z
  have r0 := cell_heap (j := 0) HT1.out.r rfl
  have HN := hide (firstN_le is10 (T b))
  have HU := hide (until1_any R w.heap.size b w1.drew (by omega) v0 r0)
  generalize hgn : firstN is10 (T b) = n at *
  have HGN := hide hgn
  clear hgn
  have hn : n ≤ b.size := by have := HN.out; rw [T_len] at this; exact this
  go_wp2_with fail
  refine wp_region_still_tail 4 (by kernel_rfl) (by kernel_rfl) ?_
  simp only [List.take_succ_cons, List.take_zero, List.drop_succ_cons, List.drop_zero]
  repeat still_step
  still_call (calls_flip HU.out)
  refine wpStill_nil ?_
  go_wp2_with fail
  refine (take_int R b _ n l c _ rfl hn hl (by omega) hc (by omega) HT1.out.drew.r).mono ?_; rintro e w2 ⟨rfl, ho, hr2⟩
  have HT2 := hide (HT1.out.drew.took ho hr2)
  clear ho hr2 HT1
  clear v0 t0 t1 t2 t3 z0 z1 z2 z3 fz0 fz1 fz2 fz3 r0
  have v0 := cell_heap (j := 0) HT2.out.v rfl
  have t0 := cell_heap (j := 0) HT2.out.t_ rfl
  have t1 := cell_heap (j := 1) HT2.out.t_ rfl
  have t2 := cell_heap (j := 2) HT2.out.t_ rfl
  have t3 := cell_heap (j := 3) HT2.out.t_ rfl
  have z0 := cell_heap (j := 0) HT2.out.z rfl
  have z1 := cell_heap (j := 1) HT2.out.z rfl
  have z2 := cell_heap (j := 2) HT2.out.z rfl
  have z3 := cell_heap (j := 3) HT2.out.z rfl
  have fz0 := frozen_heap (j := 0) HT2.out.z
  have fz1 := frozen_heap (j := 1) HT2.out.z
  have fz2 := frozen_heap (j := 2) HT2.out.z
  have fz3 := frozen_heap (j := 3) HT2.out.z
  have r0 := cell_heap (j := 0) HT2.out.r rfl
  go_wp2_with fail
  refine bodyPost_ret (v := .tuple #[.agg #[.int .u8 1, .string { data := #[] }, .int .i64 l, .int .i64 c], .bool false, .int .i64 0]) (by simp [results, Try.results29, go_sem, z0, z1, z2, z3]) rfl ?_
  refine ⟨(HT2.out.out _ _ _ _).1, .inr ?_⟩
  rw [HST.out]
  exact ⟨rfl, _, _, rfl, T_tail b n, rfl, (HT2.out.out _ _ _ _).2⟩
end Go.Proofs.Ytihmmmodimionaa.Lx
namespace Go.Proofs.Ytihmmmodimionaa.Lx
open Go.RowKit

theorem pre_size {b : ByteArray} (h : Lib.hasPrefix (T b) [47, 42] = true) : 2 ≤ b.size := by
  have := (List.isPrefixOf_iff_prefix.1 h).length_le
  rw [T_len] at this
  simpa using this

set_option maxRecDepth 100000 in
set_option maxHeartbeats 1000000 in
theorem token_open (R : Nat) (b : ByteArray) (l c : Int) (w : World) (hb0 : 0 < b.size) (hbs : b.size ≤ 65536) (hl : 1 ≤ l) (hl2 : l + b.size ≤ 1000000) (hc : 1 ≤ c) (hc2 : c + b.size ≤ 1000000) (hr : RdR w R b l c)
    (hx : ¬ (b[0].toNat : Int) = 32 ∧ ¬ (b[0].toNat : Int) = 10 ∧ ¬ (b[0].toNat : Int) = 35) (hR : R ≠ 0) (m : Int) (hm : w.cell? ⟨0, 0, none⟩ = some (.int .i64 m)) (hp : Lib.hasPrefix (T b) [47, 42] = true) (hr0 : Lib.index ((T b).drop 2) [42, 47] < 0) (hst : step (T b) = ⟨true, false, 1, [], 0⟩) :
    Calls Try.prog 29 #[.pointer (some ⟨R, 0, none⟩)] w (TokPost R b l c w) := by
  have q0 := fun o => cell_heap (j := 0) (heap_old (p := o) hr) rfl
  have q1 := fun o o2 => cell_heap (j := 1) (heap_old (p := o2) (heap_old (p := o) hr)) rfl
  have q2 := fun o o2 => cell_heap (j := 2) (heap_old (p := o2) (heap_old (p := o) hr)) rfl
  have q3 := fun o o2 o3 => cell_heap (j := 0) (heap_old (p := o3) (heap_old (p := o2) (heap_old (p := o) hr))) rfl
  have HT0 := hide (ts_start w R b l c hr)
  have H0 := hide (fun W => Try.strings_IndexByte ⟨#[123, 125, 59, 91, 93]⟩ b[0].toNat W)
  have HST := hide hst
  clear hst
  obtain ⟨hx1', hx2', hx3'⟩ := hx
  have hx1 : ((b[0].toNat : Int) == 32) = false := beq_if (by omega)
  have hx2 : ((b[0].toNat : Int) == 10) = false := beq_if (by omega)
  have hx3 : ((b[0].toNat : Int) == 35) = false := beq_if (by omega)
  clear hr
  go_enter Try.func29, Try.ntmps29
  go_wp2_with fail
  refine (H0.out _).mono ?_; rintro e w1 ⟨rfl, hw1⟩
  have HT1 := hide (show TS w R b l c l c 1 { data := #[] } w1 by rw [hw1]; exact HT0.out)
  clear hw1 q0 q1 q2 q3 HT0 H0
  have v0 := cell_heap (j := 0) HT1.out.v rfl
  have t0 := cell_heap (j := 0) HT1.out.t_ rfl
  have t1 := cell_heap (j := 1) HT1.out.t_ rfl
  have t2 := cell_heap (j := 2) HT1.out.t_ rfl
  have t3 := cell_heap (j := 3) HT1.out.t_ rfl
  have z0 := cell_heap (j := 0) HT1.out.z rfl
  have z1 := cell_heap (j := 1) HT1.out.z rfl
  have z2 := cell_heap (j := 2) HT1.out.z rfl
  have z3 := cell_heap (j := 3) HT1.out.z rfl
  have fz0 := frozen_heap (j := 0) HT1.out.z
  have fz1 := frozen_heap (j := 1) HT1.out.z
  have fz2 := frozen_heap (j := 2) HT1.out.z
  have fz3 := frozen_heap (j := 3) HT1.out.z
  have r0 := cell_heap (j := 0) HT1.out.r rfl
  have hm1 : w1.cell? ⟨0, 0, none⟩ = some (.int .i64 m) := only_cell HT1.out.o hm (fun e => hR e.symm)
  have hsz := pre_size hp
  have hpre := Try.strings_HasPrefix b ⟨#[47, 42]⟩ w1
  rw [show Lib.hasPrefix b.data.toList (⟨#[47, 42]⟩ : ByteArray).data.toList = true from hp] at hpre
  have HPRE := hide hpre
  clear hpre
  have hix := Try.strings_Index (b.extract 2 b.size) ⟨#[42, 47]⟩ m w1 (by rw [size_T, T_tail, List.length_drop, T_len]; omega) hm1
  rw [show Lib.index (b.extract 2 b.size).data.toList (⟨#[42, 47]⟩ : ByteArray).data.toList = Lib.index ((T b).drop 2) [42, 47] by rw [← T_tail]; rfl] at hix
  have hbnd := index_bound [42, 47] ((T b).drop 2)
  rw [List.length_drop, T_len] at hbnd
  generalize Lib.index ((T b).drop 2) [42, 47] = r at *
  have HIX := hide hix
  clear hix hm1
  have hr0' : r < 0 := hr0
  clear hbnd hr0
  go_wp2_with fail
  refine HPRE.out.mono ?_; rintro e w2 ⟨rfl, rfl⟩
  go_wp2_with fail
  refine HIX.out.mono ?_; rintro e w3 ⟨rfl, rfl⟩
  go_wp2_with fail
  refine bodyPost_ret (v := .tuple #[.agg #[.int .u8 1, .string { data := #[] }, .int .i64 l, .int .i64 c], .bool false, .int .i64 71]) (by simp [results, Try.results29, go_sem, z0, z1, z2, z3]) rfl ?_
  refine ⟨(HT1.out.out _ _ _ _).1, .inl ?_⟩
  rw [HST.out]
  exact ⟨rfl, rfl⟩

set_option maxRecDepth 100000 in
set_option maxHeartbeats 1000000 in
theorem token_comment (R : Nat) (b : ByteArray) (l c : Int) (w : World) (hb0 : 0 < b.size) (hbs : b.size ≤ 65536) (hl : 1 ≤ l) (hl2 : l + b.size ≤ 1000000) (hc : 1 ≤ c) (hc2 : c + b.size ≤ 1000000) (hr : RdR w R b l c)
    (hx : ¬ (b[0].toNat : Int) = 32 ∧ ¬ (b[0].toNat : Int) = 10 ∧ ¬ (b[0].toNat : Int) = 35) (hR : R ≠ 0) (m : Int) (hm : w.cell? ⟨0, 0, none⟩ = some (.int .i64 m)) (hp : Lib.hasPrefix (T b) [47, 42] = true) (hr0 : 0 ≤ Lib.index ((T b).drop 2) [42, 47]) (hst : step (T b) = ⟨false, false, 1, [], (Lib.index ((T b).drop 2) [42, 47]).toNat + 4⟩) :
    Calls Try.prog 29 #[.pointer (some ⟨R, 0, none⟩)] w (TokPost R b l c w) := by
  have q0 := fun o => cell_heap (j := 0) (heap_old (p := o) hr) rfl
  have q1 := fun o o2 => cell_heap (j := 1) (heap_old (p := o2) (heap_old (p := o) hr)) rfl
  have q2 := fun o o2 => cell_heap (j := 2) (heap_old (p := o2) (heap_old (p := o) hr)) rfl
  have q3 := fun o o2 o3 => cell_heap (j := 0) (heap_old (p := o3) (heap_old (p := o2) (heap_old (p := o) hr))) rfl
  have HT0 := hide (ts_start w R b l c hr)
  have H0 := hide (fun W => Try.strings_IndexByte ⟨#[123, 125, 59, 91, 93]⟩ b[0].toNat W)
  have HST := hide hst
  clear hst
  obtain ⟨hx1', hx2', hx3'⟩ := hx
  have hx1 : ((b[0].toNat : Int) == 32) = false := beq_if (by omega)
  have hx2 : ((b[0].toNat : Int) == 10) = false := beq_if (by omega)
  have hx3 : ((b[0].toNat : Int) == 35) = false := beq_if (by omega)
  clear hr
  go_enter Try.func29, Try.ntmps29
  go_wp2_with fail
  refine (H0.out _).mono ?_; rintro e w1 ⟨rfl, hw1⟩
  have HT1 := hide (show TS w R b l c l c 1 { data := #[] } w1 by rw [hw1]; exact HT0.out)
  clear hw1 q0 q1 q2 q3 HT0 H0
  have v0 := cell_heap (j := 0) HT1.out.v rfl
  have t0 := cell_heap (j := 0) HT1.out.t_ rfl
  have t1 := cell_heap (j := 1) HT1.out.t_ rfl
  have t2 := cell_heap (j := 2) HT1.out.t_ rfl
  have t3 := cell_heap (j := 3) HT1.out.t_ rfl
  have z0 := cell_heap (j := 0) HT1.out.z rfl
  have z1 := cell_heap (j := 1) HT1.out.z rfl
  have z2 := cell_heap (j := 2) HT1.out.z rfl
  have z3 := cell_heap (j := 3) HT1.out.z rfl
  have fz0 := frozen_heap (j := 0) HT1.out.z
  have fz1 := frozen_heap (j := 1) HT1.out.z
  have fz2 := frozen_heap (j := 2) HT1.out.z
  have fz3 := frozen_heap (j := 3) HT1.out.z
  have r0 := cell_heap (j := 0) HT1.out.r rfl
  have hm1 : w1.cell? ⟨0, 0, none⟩ = some (.int .i64 m) := only_cell HT1.out.o hm (fun e => hR e.symm)
  have hsz := pre_size hp
  have hpre := Try.strings_HasPrefix b ⟨#[47, 42]⟩ w1
  rw [show Lib.hasPrefix b.data.toList (⟨#[47, 42]⟩ : ByteArray).data.toList = true from hp] at hpre
  have HPRE := hide hpre
  clear hpre
  have hix := Try.strings_Index (b.extract 2 b.size) ⟨#[42, 47]⟩ m w1 (by rw [size_T, T_tail, List.length_drop, T_len]; omega) hm1
  rw [show Lib.index (b.extract 2 b.size).data.toList (⟨#[42, 47]⟩ : ByteArray).data.toList = Lib.index ((T b).drop 2) [42, 47] by rw [← T_tail]; rfl] at hix
  have hbnd := index_bound [42, 47] ((T b).drop 2)
  rw [List.length_drop, T_len] at hbnd
  generalize Lib.index ((T b).drop 2) [42, 47] = r at *
  have HIX := hide hix
  clear hix hm1
  obtain ⟨n, rfl⟩ := Int.eq_ofNat_of_zero_le hr0
  have hn : n + 4 ≤ b.size := by have := hbnd hr0; simp at this; omega
  clear hbnd hr0
  go_wp2_with fail
  refine HPRE.out.mono ?_; rintro e w2 ⟨rfl, rfl⟩
  go_wp2_with fail
  refine HIX.out.mono ?_; rintro e w3 ⟨rfl, rfl⟩
  go_wp2_with fail
  refine (take_int R b _ (n + 4) l c _ (by omega) hn hl (by omega) hc (by omega) HT1.out.r).mono ?_; rintro e w2 ⟨rfl, ho, hr2⟩
  have HT2 := hide (HT1.out.took ho hr2)
  clear ho hr2 HT1 HPRE HIX
  clear v0 t0 t1 t2 t3 z0 z1 z2 z3 fz0 fz1 fz2 fz3 r0
  have v0 := cell_heap (j := 0) HT2.out.v rfl
  have t0 := cell_heap (j := 0) HT2.out.t_ rfl
  have t1 := cell_heap (j := 1) HT2.out.t_ rfl
  have t2 := cell_heap (j := 2) HT2.out.t_ rfl
  have t3 := cell_heap (j := 3) HT2.out.t_ rfl
  have z0 := cell_heap (j := 0) HT2.out.z rfl
  have z1 := cell_heap (j := 1) HT2.out.z rfl
  have z2 := cell_heap (j := 2) HT2.out.z rfl
  have z3 := cell_heap (j := 3) HT2.out.z rfl
  have fz0 := frozen_heap (j := 0) HT2.out.z
  have fz1 := frozen_heap (j := 1) HT2.out.z
  have fz2 := frozen_heap (j := 2) HT2.out.z
  have fz3 := frozen_heap (j := 3) HT2.out.z
  have r0 := cell_heap (j := 0) HT2.out.r rfl
  go_wp2_with fail
  refine bodyPost_ret (v := .tuple #[.agg #[.int .u8 1, .string { data := #[] }, .int .i64 l, .int .i64 c], .bool false, .int .i64 0]) (by simp [results, Try.results29, go_sem, z0, z1, z2, z3]) rfl ?_
  refine ⟨(HT2.out.out _ _ _ _).1, .inr ?_⟩
  rw [HST.out]
  exact ⟨rfl, _, _, rfl, T_tail b (n + 4), rfl, (HT2.out.out _ _ _ _).2⟩
end Go.Proofs.Ytihmmmodimionaa.Lx
namespace Go.Proofs.Ytihmmmodimionaa.Lx
open Go.RowKit

set_option maxRecDepth 100000 in
set_option maxHeartbeats 1000000 in
theorem token_q1 (R : Nat) (b : ByteArray) (l c : Int) (w : World) (hb0 : 0 < b.size) (hbs : b.size ≤ 65536) (hl : 1 ≤ l) (hl2 : l + b.size ≤ 1000000) (hc : 1 ≤ c) (hc2 : c + b.size ≤ 1000000) (hr : RdR w R b l c)
    (hx : (b[0].toNat : Int) = 34) (hasc : ∀ (j : Nat) (x : UInt8), ((T b).drop 1)[j]? = some x → x.toNat < 128) (hp : Lib.hasPrefix (T b) [47, 42] = false) (hr0 : Lib.indexAny ((T b).drop 1) [34, 10] < 0) (hst : step (T b) = ⟨true, false, 1, [], 0⟩) :
    Calls Try.prog 29 #[.pointer (some ⟨R, 0, none⟩)] w (TokPost R b l c w) := by
  have q0 := fun o => cell_heap (j := 0) (heap_old (p := o) hr) rfl
  have q1 := fun o o2 => cell_heap (j := 1) (heap_old (p := o2) (heap_old (p := o) hr)) rfl
  have q2 := fun o o2 => cell_heap (j := 2) (heap_old (p := o2) (heap_old (p := o) hr)) rfl
  have q3 := fun o o2 o3 => cell_heap (j := 0) (heap_old (p := o3) (heap_old (p := o2) (heap_old (p := o) hr))) rfl
  have HT0 := hide (ts_start w R b l c hr)
  have H0 := hide (fun W => Try.strings_IndexByte ⟨#[123, 125, 59, 91, 93]⟩ b[0].toNat W)
  have HST := hide hst
  clear hst
  have hx1 : ((b[0].toNat : Int) == 32) = false := beq_if (by omega)
  have hx2 : ((b[0].toNat : Int) == 10) = false := beq_if (by omega)
  have hx3 : ((b[0].toNat : Int) == 35) = false := beq_if (by omega)
  have hx4 := beq_it hx
  clear hx
  clear hr
  go_enter Try.func29, Try.ntmps29
  go_wp2_with fail
  refine (H0.out _).mono ?_; rintro e w1 ⟨rfl, hw1⟩
  have HT1 := hide (show TS w R b l c l c 1 { data := #[] } w1 by rw [hw1]; exact HT0.out)
  clear hw1 q0 q1 q2 q3 HT0 H0
  have v0 := cell_heap (j := 0) HT1.out.v rfl
  have t0 := cell_heap (j := 0) HT1.out.t_ rfl
  have t1 := cell_heap (j := 1) HT1.out.t_ rfl
  have t2 := cell_heap (j := 2) HT1.out.t_ rfl
  have t3 := cell_heap (j := 3) HT1.out.t_ rfl
  have z0 := cell_heap (j := 0) HT1.out.z rfl
  have z1 := cell_heap (j := 1) HT1.out.z rfl
  have z2 := cell_heap (j := 2) HT1.out.z rfl
  have z3 := cell_heap (j := 3) HT1.out.z rfl
  have fz0 := frozen_heap (j := 0) HT1.out.z
  have fz1 := frozen_heap (j := 1) HT1.out.z
  have fz2 := frozen_heap (j := 2) HT1.out.z
  have fz3 := frozen_heap (j := 3) HT1.out.z
  have r0 := cell_heap (j := 0) HT1.out.r rfl
  have hpre := Try.strings_HasPrefix b ⟨#[47, 42]⟩ w1
  rw [show Lib.hasPrefix b.data.toList (⟨#[47, 42]⟩ : ByteArray).data.toList = false from hp] at hpre
  have HPRE := hide hpre
  clear hpre
  have hix := Try.strings_IndexAny_laid (b.extract 1 b.size) ⟨#[34, 10]⟩ w1 (by rw [size_T, T_tail, List.length_drop, T_len]; omega) (by decide) (by rw [show (b.extract 1 b.size).data.toList = (T b).drop 1 from T_tail b 1]; exact hasc) (by
    intro j x hj
    have hx5 : x ∈ [(34 : UInt8), 10] := List.mem_of_getElem? hj
    simp at hx5
    rcases hx5 with rfl | rfl <;> decide)
  rw [show Lib.indexAny (b.extract 1 b.size).data.toList (⟨#[34, 10]⟩ : ByteArray).data.toList = Lib.indexAny ((T b).drop 1) [34, 10] by rw [← T_tail]; rfl] at hix
  have hbnd := indexAny_bound [34, 10] ((T b).drop 1)
  rw [List.length_drop, T_len] at hbnd
  clear hasc
  generalize Lib.indexAny ((T b).drop 1) [34, 10] = r at *
  have HIX := hide hix
  clear hix
  have hr0' : r < 0 := hr0
  clear hbnd hr0
  go_wp2_with fail
  refine HPRE.out.mono ?_; rintro e w2 ⟨rfl, rfl⟩
  go_wp2_with fail
  refine HIX.out.mono ?_; rintro e w3 ⟨rfl, hb3⟩
  have HT2 := hide (HT1.out.took (only_of_below hb3) (heapB hb3 HT1.out.r))
  clear hb3 HT1 HPRE HIX
  clear v0 t0 t1 t2 t3 z0 z1 z2 z3 fz0 fz1 fz2 fz3 r0
  have v0 := cell_heap (j := 0) HT2.out.v rfl
  have t0 := cell_heap (j := 0) HT2.out.t_ rfl
  have t1 := cell_heap (j := 1) HT2.out.t_ rfl
  have t2 := cell_heap (j := 2) HT2.out.t_ rfl
  have t3 := cell_heap (j := 3) HT2.out.t_ rfl
  have z0 := cell_heap (j := 0) HT2.out.z rfl
  have z1 := cell_heap (j := 1) HT2.out.z rfl
  have z2 := cell_heap (j := 2) HT2.out.z rfl
  have z3 := cell_heap (j := 3) HT2.out.z rfl
  have fz0 := frozen_heap (j := 0) HT2.out.z
  have fz1 := frozen_heap (j := 1) HT2.out.z
  have fz2 := frozen_heap (j := 2) HT2.out.z
  have fz3 := frozen_heap (j := 3) HT2.out.z
  have r0 := cell_heap (j := 0) HT2.out.r rfl
  go_wp2_with fail
  refine bodyPost_ret (v := .tuple #[.agg #[.int .u8 1, .string { data := #[] }, .int .i64 l, .int .i64 c], .bool false, .int .i64 71]) (by simp [results, Try.results29, go_sem, z0, z1, z2, z3]) rfl ?_
  refine ⟨(HT2.out.out _ _ _ _).1, .inl ?_⟩
  rw [HST.out]
  exact ⟨rfl, rfl⟩

set_option maxRecDepth 100000 in
set_option maxHeartbeats 1000000 in
theorem token_q2 (R : Nat) (b : ByteArray) (l c : Int) (w : World) (hb0 : 0 < b.size) (hbs : b.size ≤ 65536) (hl : 1 ≤ l) (hl2 : l + b.size ≤ 1000000) (hc : 1 ≤ c) (hc2 : c + b.size ≤ 1000000) (hr : RdR w R b l c)
    (hx : (b[0].toNat : Int) = 34) (hasc : ∀ (j : Nat) (x : UInt8), ((T b).drop 1)[j]? = some x → x.toNat < 128) (hp : Lib.hasPrefix (T b) [47, 42] = false) (hr0 : 0 ≤ Lib.indexAny ((T b).drop 1) [34, 10]) (h10 : (T b).getD ((Lib.indexAny ((T b).drop 1) [34, 10]).toNat + 1) 0 = 10) (hst : step (T b) = ⟨true, false, 1, [], 0⟩) :
    Calls Try.prog 29 #[.pointer (some ⟨R, 0, none⟩)] w (TokPost R b l c w) := by
  have q0 := fun o => cell_heap (j := 0) (heap_old (p := o) hr) rfl
  have q1 := fun o o2 => cell_heap (j := 1) (heap_old (p := o2) (heap_old (p := o) hr)) rfl
  have q2 := fun o o2 => cell_heap (j := 2) (heap_old (p := o2) (heap_old (p := o) hr)) rfl
  have q3 := fun o o2 o3 => cell_heap (j := 0) (heap_old (p := o3) (heap_old (p := o2) (heap_old (p := o) hr))) rfl
  have HT0 := hide (ts_start w R b l c hr)
  have H0 := hide (fun W => Try.strings_IndexByte ⟨#[123, 125, 59, 91, 93]⟩ b[0].toNat W)
  have HST := hide hst
  clear hst
  have hx1 : ((b[0].toNat : Int) == 32) = false := beq_if (by omega)
  have hx2 : ((b[0].toNat : Int) == 10) = false := beq_if (by omega)
  have hx3 : ((b[0].toNat : Int) == 35) = false := beq_if (by omega)
  have hx4 := beq_it hx
  clear hx
  clear hr
  go_enter Try.func29, Try.ntmps29
  go_wp2_with fail
  refine (H0.out _).mono ?_; rintro e w1 ⟨rfl, hw1⟩
  have HT1 := hide (show TS w R b l c l c 1 { data := #[] } w1 by rw [hw1]; exact HT0.out)
  clear hw1 q0 q1 q2 q3 HT0 H0
  have v0 := cell_heap (j := 0) HT1.out.v rfl
  have t0 := cell_heap (j := 0) HT1.out.t_ rfl
  have t1 := cell_heap (j := 1) HT1.out.t_ rfl
  have t2 := cell_heap (j := 2) HT1.out.t_ rfl
  have t3 := cell_heap (j := 3) HT1.out.t_ rfl
  have z0 := cell_heap (j := 0) HT1.out.z rfl
  have z1 := cell_heap (j := 1) HT1.out.z rfl
  have z2 := cell_heap (j := 2) HT1.out.z rfl
  have z3 := cell_heap (j := 3) HT1.out.z rfl
  have fz0 := frozen_heap (j := 0) HT1.out.z
  have fz1 := frozen_heap (j := 1) HT1.out.z
  have fz2 := frozen_heap (j := 2) HT1.out.z
  have fz3 := frozen_heap (j := 3) HT1.out.z
  have r0 := cell_heap (j := 0) HT1.out.r rfl
  have hpre := Try.strings_HasPrefix b ⟨#[47, 42]⟩ w1
  rw [show Lib.hasPrefix b.data.toList (⟨#[47, 42]⟩ : ByteArray).data.toList = false from hp] at hpre
  have HPRE := hide hpre
  clear hpre
  have hix := Try.strings_IndexAny_laid (b.extract 1 b.size) ⟨#[34, 10]⟩ w1 (by rw [size_T, T_tail, List.length_drop, T_len]; omega) (by decide) (by rw [show (b.extract 1 b.size).data.toList = (T b).drop 1 from T_tail b 1]; exact hasc) (by
    intro j x hj
    have hx5 : x ∈ [(34 : UInt8), 10] := List.mem_of_getElem? hj
    simp at hx5
    rcases hx5 with rfl | rfl <;> decide)
  rw [show Lib.indexAny (b.extract 1 b.size).data.toList (⟨#[34, 10]⟩ : ByteArray).data.toList = Lib.indexAny ((T b).drop 1) [34, 10] by rw [← T_tail]; rfl] at hix
  have hbnd := indexAny_bound [34, 10] ((T b).drop 1)
  rw [List.length_drop, T_len] at hbnd
  clear hasc
  generalize Lib.indexAny ((T b).drop 1) [34, 10] = r at *
  have HIX := hide hix
  clear hix
  obtain ⟨n, rfl⟩ := Int.eq_ofNat_of_zero_le hr0
  have hn : n + 1 < b.size := by have := hbnd hr0; simp at this; omega
  simp only [Int.toNat_natCast] at h10
  have hget : (T b).getD (n + 1) 0 = b[n + 1] := by rw [List.getD_eq_getElem?_getD, T_get b (n + 1) hn]; rfl
  rw [hget] at h10
  have hx6 : ((b[n + 1].toNat : Int) == 10) = true := beq_it (by have := (eq10 _).1 h10; omega)
  clear hbnd hr0 h10 hget
  go_wp2_with fail
  refine HPRE.out.mono ?_; rintro e w2 ⟨rfl, rfl⟩
  go_wp2_with fail
  refine HIX.out.mono ?_; rintro e w3 ⟨rfl, hb3⟩
  have HT2 := hide (HT1.out.took (only_of_below hb3) (heapB hb3 HT1.out.r))
  clear hb3 HT1 HPRE HIX
  clear v0 t0 t1 t2 t3 z0 z1 z2 z3 fz0 fz1 fz2 fz3 r0
  have v0 := cell_heap (j := 0) HT2.out.v rfl
  have t0 := cell_heap (j := 0) HT2.out.t_ rfl
  have t1 := cell_heap (j := 1) HT2.out.t_ rfl
  have t2 := cell_heap (j := 2) HT2.out.t_ rfl
  have t3 := cell_heap (j := 3) HT2.out.t_ rfl
  have z0 := cell_heap (j := 0) HT2.out.z rfl
  have z1 := cell_heap (j := 1) HT2.out.z rfl
  have z2 := cell_heap (j := 2) HT2.out.z rfl
  have z3 := cell_heap (j := 3) HT2.out.z rfl
  have fz0 := frozen_heap (j := 0) HT2.out.z
  have fz1 := frozen_heap (j := 1) HT2.out.z
  have fz2 := frozen_heap (j := 2) HT2.out.z
  have fz3 := frozen_heap (j := 3) HT2.out.z
  have r0 := cell_heap (j := 0) HT2.out.r rfl
  go_wp2_with fail
  refine bodyPost_ret (v := .tuple #[.agg #[.int .u8 1, .string { data := #[] }, .int .i64 l, .int .i64 c], .bool false, .int .i64 71]) (by simp [results, Try.results29, go_sem, z0, z1, z2, z3]) rfl ?_
  refine ⟨(HT2.out.out _ _ _ _).1, .inl ?_⟩
  rw [HST.out]
  exact ⟨rfl, rfl⟩

set_option maxRecDepth 100000 in
set_option maxHeartbeats 1000000 in
theorem token_q3 (R : Nat) (b : ByteArray) (l c : Int) (w : World) (hb0 : 0 < b.size) (hbs : b.size ≤ 65536) (hl : 1 ≤ l) (hl2 : l + b.size ≤ 1000000) (hc : 1 ≤ c) (hc2 : c + b.size ≤ 1000000) (hr : RdR w R b l c)
    (hx : (b[0].toNat : Int) = 34) (hasc : ∀ (j : Nat) (x : UInt8), ((T b).drop 1)[j]? = some x → x.toNat < 128) (hp : Lib.hasPrefix (T b) [47, 42] = false) (hr0 : 0 ≤ Lib.indexAny ((T b).drop 1) [34, 10]) (h10 : ¬ (T b).getD ((Lib.indexAny ((T b).drop 1) [34, 10]).toNat + 1) 0 = 10) (hst : step (T b) = ⟨false, true, 1, ((T b).drop 1).take (Lib.indexAny ((T b).drop 1) [34, 10]).toNat, (Lib.indexAny ((T b).drop 1) [34, 10]).toNat + 2⟩) :
    Calls Try.prog 29 #[.pointer (some ⟨R, 0, none⟩)] w (TokPost R b l c w) := by
  have q0 := fun o => cell_heap (j := 0) (heap_old (p := o) hr) rfl
  have q1 := fun o o2 => cell_heap (j := 1) (heap_old (p := o2) (heap_old (p := o) hr)) rfl
  have q2 := fun o o2 => cell_heap (j := 2) (heap_old (p := o2) (heap_old (p := o) hr)) rfl
  have q3 := fun o o2 o3 => cell_heap (j := 0) (heap_old (p := o3) (heap_old (p := o2) (heap_old (p := o) hr))) rfl
  have HT0 := hide (ts_start w R b l c hr)
  have H0 := hide (fun W => Try.strings_IndexByte ⟨#[123, 125, 59, 91, 93]⟩ b[0].toNat W)
  have HST := hide hst
  clear hst
  have hx1 : ((b[0].toNat : Int) == 32) = false := beq_if (by omega)
  have hx2 : ((b[0].toNat : Int) == 10) = false := beq_if (by omega)
  have hx3 : ((b[0].toNat : Int) == 35) = false := beq_if (by omega)
  have hx4 := beq_it hx
  clear hx
  clear hr
  go_enter Try.func29, Try.ntmps29
  go_wp2_with fail
  refine (H0.out _).mono ?_; rintro e w1 ⟨rfl, hw1⟩
  have HT1 := hide (show TS w R b l c l c 1 { data := #[] } w1 by rw [hw1]; exact HT0.out)
  clear hw1 q0 q1 q2 q3 HT0 H0
  have v0 := cell_heap (j := 0) HT1.out.v rfl
  have t0 := cell_heap (j := 0) HT1.out.t_ rfl
  have t1 := cell_heap (j := 1) HT1.out.t_ rfl
  have t2 := cell_heap (j := 2) HT1.out.t_ rfl
  have t3 := cell_heap (j := 3) HT1.out.t_ rfl
  have z0 := cell_heap (j := 0) HT1.out.z rfl
  have z1 := cell_heap (j := 1) HT1.out.z rfl
  have z2 := cell_heap (j := 2) HT1.out.z rfl
  have z3 := cell_heap (j := 3) HT1.out.z rfl
  have fz0 := frozen_heap (j := 0) HT1.out.z
  have fz1 := frozen_heap (j := 1) HT1.out.z
  have fz2 := frozen_heap (j := 2) HT1.out.z
  have fz3 := frozen_heap (j := 3) HT1.out.z
  have r0 := cell_heap (j := 0) HT1.out.r rfl
  have hpre := Try.strings_HasPrefix b ⟨#[47, 42]⟩ w1
  rw [show Lib.hasPrefix b.data.toList (⟨#[47, 42]⟩ : ByteArray).data.toList = false from hp] at hpre
  have HPRE := hide hpre
  clear hpre
  have hix := Try.strings_IndexAny_laid (b.extract 1 b.size) ⟨#[34, 10]⟩ w1 (by rw [size_T, T_tail, List.length_drop, T_len]; omega) (by decide) (by rw [show (b.extract 1 b.size).data.toList = (T b).drop 1 from T_tail b 1]; exact hasc) (by
    intro j x hj
    have hx5 : x ∈ [(34 : UInt8), 10] := List.mem_of_getElem? hj
    simp at hx5
    rcases hx5 with rfl | rfl <;> decide)
  rw [show Lib.indexAny (b.extract 1 b.size).data.toList (⟨#[34, 10]⟩ : ByteArray).data.toList = Lib.indexAny ((T b).drop 1) [34, 10] by rw [← T_tail]; rfl] at hix
  have hbnd := indexAny_bound [34, 10] ((T b).drop 1)
  rw [List.length_drop, T_len] at hbnd
  clear hasc
  generalize Lib.indexAny ((T b).drop 1) [34, 10] = r at *
  have HIX := hide hix
  clear hix
  obtain ⟨n, rfl⟩ := Int.eq_ofNat_of_zero_le hr0
  have hn : n + 1 < b.size := by have := hbnd hr0; simp at this; omega
  simp only [Int.toNat_natCast] at h10
  have hget : (T b).getD (n + 1) 0 = b[n + 1] := by rw [List.getD_eq_getElem?_getD, T_get b (n + 1) hn]; rfl
  rw [hget] at h10
  have hx6 : ((b[n + 1].toNat : Int) == 10) = false := beq_if (by intro e'; exact h10 ((eq10 _).2 (by omega)))
  have hes : Hid ((b.extract 0 (n + 2)).size = n + 2) := by show _ = _; rw [size_T, T_head, List.length_take, T_len]; omega
  have het : Hid (T ((b.extract 0 (n + 2)).extract 1 (n + 1)) = ((T b).drop 1).take n) := by
    show _ = _
    rw [T_extract, T_head, List.take_take, Nat.min_eq_left (by omega), List.drop_take]
    rfl
  clear hbnd hr0 h10 hget
  go_wp2_with fail
  refine HPRE.out.mono ?_; rintro e w2 ⟨rfl, rfl⟩
  go_wp2_with fail
  refine HIX.out.mono ?_; rintro e w3 ⟨rfl, hb3⟩
  have HT2 := hide (HT1.out.took (only_of_below hb3) (heapB hb3 HT1.out.r))
  clear hb3 HT1 HPRE HIX
  clear v0 t0 t1 t2 t3 z0 z1 z2 z3 fz0 fz1 fz2 fz3 r0
  have v0 := cell_heap (j := 0) HT2.out.v rfl
  have t0 := cell_heap (j := 0) HT2.out.t_ rfl
  have t1 := cell_heap (j := 1) HT2.out.t_ rfl
  have t2 := cell_heap (j := 2) HT2.out.t_ rfl
  have t3 := cell_heap (j := 3) HT2.out.t_ rfl
  have z0 := cell_heap (j := 0) HT2.out.z rfl
  have z1 := cell_heap (j := 1) HT2.out.z rfl
  have z2 := cell_heap (j := 2) HT2.out.z rfl
  have z3 := cell_heap (j := 3) HT2.out.z rfl
  have fz0 := frozen_heap (j := 0) HT2.out.z
  have fz1 := frozen_heap (j := 1) HT2.out.z
  have fz2 := frozen_heap (j := 2) HT2.out.z
  have fz3 := frozen_heap (j := 3) HT2.out.z
  have r0 := cell_heap (j := 0) HT2.out.r rfl
  go_wp2_with fail
  refine (take_int R b _ (n + 2) l c _ (by omega) (by omega) hl (by omega) hc (by omega) HT2.out.r).mono ?_; rintro e w4 ⟨rfl, ho, hr2⟩
  generalize b.extract 0 (n + 2) = bq at *
  have hes1 : n + 1 ≤ bq.size := by have := hes.out; omega
  have HT3 := hide (HT2.out.took ho hr2)
  clear ho hr2 HT2
  clear v0 t0 t1 t2 t3 z0 z1 z2 z3 fz0 fz1 fz2 fz3 r0
  have v0 := cell_heap (j := 0) HT3.out.v rfl
  have t0 := cell_heap (j := 0) HT3.out.t_ rfl
  have t1 := cell_heap (j := 1) HT3.out.t_ rfl
  have t2 := cell_heap (j := 2) HT3.out.t_ rfl
  have t3 := cell_heap (j := 3) HT3.out.t_ rfl
  have z0 := cell_heap (j := 0) HT3.out.z rfl
  have z1 := cell_heap (j := 1) HT3.out.z rfl
  have z2 := cell_heap (j := 2) HT3.out.z rfl
  have z3 := cell_heap (j := 3) HT3.out.z rfl
  have fz0 := frozen_heap (j := 0) HT3.out.z
  have fz1 := frozen_heap (j := 1) HT3.out.z
  have fz2 := frozen_heap (j := 2) HT3.out.z
  have fz3 := frozen_heap (j := 3) HT3.out.z
  have r0 := cell_heap (j := 0) HT3.out.r rfl
  have ft1 := frozen_heap (j := 1) HT3.out.t_
  go_wp2_with fail
  have HT4 := hide (HT3.out.set_t (bq.extract 1 (n + 1)))
  refine bodyPost_ret (v := .tuple #[.agg #[.int .u8 1, .string (bq.extract 1 (n + 1)), .int .i64 l, .int .i64 c], .bool true, .int .i64 0]) (by simp [results, Try.results29, go_sem, z0, z1, z2, z3]) rfl ?_
  refine ⟨(HT4.out.out _ _ _ _).1, .inr ?_⟩
  rw [HST.out]
  exact ⟨rfl, _, _, het.out, T_tail b (n + 2), rfl, (HT4.out.out _ _ _ _).2⟩
end Go.Proofs.Ytihmmmodimionaa.Lx
namespace Go.Proofs.Ytihmmmodimionaa.Lx
open Go.RowKit
theorem indexByte_lt (c : UInt8) : ∀ l : List UInt8, Lib.indexByte l c < l.length := by
  intro l
  induction l with
  | nil => simp [Lib.indexByte]
  | cons x xs ih =>
    unfold Lib.indexByte
    have hge := Lib.indexByte_ge xs c
    simp only [List.length_cons]
    split
    · omega
    · split
      · omega
      · omega
theorem sign_eq (b : ByteArray) (h : 0 < b.size) : Lib.indexByte (⟨#[123, 125, 59, 91, 93]⟩ : ByteArray).data.toList ((b[0].toNat : Int)).toNat.toUInt8 = Lib.indexByte signs b[0] := by
  congr 1
  simp

set_option maxRecDepth 100000 in
set_option maxHeartbeats 1000000 in
theorem token_sign (R : Nat) (b : ByteArray) (l c : Int) (w : World) (hb0 : 0 < b.size) (hbs : b.size ≤ 65536) (hl : 1 ≤ l) (hl2 : l + b.size ≤ 1000000) (hc : 1 ≤ c) (hc2 : c + b.size ≤ 1000000) (hr : RdR w R b l c)
    (hx : ¬ (b[0].toNat : Int) = 32 ∧ ¬ (b[0].toNat : Int) = 10 ∧ ¬ (b[0].toNat : Int) = 35 ∧ ¬ (b[0].toNat : Int) = 34) (hp : Lib.hasPrefix (T b) [47, 42] = false) (hr0 : 0 ≤ Lib.indexByte signs b[0]) (hst : step (T b) = ⟨false, true, 2 + Lib.indexByte signs b[0], (T b).take 1, 1⟩) :
    Calls Try.prog 29 #[.pointer (some ⟨R, 0, none⟩)] w (TokPost R b l c w) := by
  have q0 := fun o => cell_heap (j := 0) (heap_old (p := o) hr) rfl
  have q1 := fun o o2 => cell_heap (j := 1) (heap_old (p := o2) (heap_old (p := o) hr)) rfl
  have q2 := fun o o2 => cell_heap (j := 2) (heap_old (p := o2) (heap_old (p := o) hr)) rfl
  have q3 := fun o o2 o3 => cell_heap (j := 0) (heap_old (p := o3) (heap_old (p := o2) (heap_old (p := o) hr))) rfl
  have HT0 := hide (ts_start w R b l c hr)
  have H0 := hide (fun W => Try.strings_IndexByte ⟨#[123, 125, 59, 91, 93]⟩ b[0].toNat W)
  have HST := hide hst
  clear hst
  obtain ⟨hx1', hx2', hx3', hx4'⟩ := hx
  have hx1 : ((b[0].toNat : Int) == 32) = false := beq_if (by omega)
  have hx2 : ((b[0].toNat : Int) == 10) = false := beq_if (by omega)
  have hx3 : ((b[0].toNat : Int) == 35) = false := beq_if (by omega)
  have hx4 : ((b[0].toNat : Int) == 34) = false := beq_if (by omega)
  have h0r := fun W => Try.strings_IndexByte ⟨#[123, 125, 59, 91, 93]⟩ b[0].toNat W
  simp only [sign_eq b hb0] at h0r
  have hlt5 := indexByte_lt b[0] signs
  have hlt6 : Lib.indexByte signs b[0] < 5 := hlt5
  clear hlt5
  generalize Lib.indexByte signs b[0] = r at *
  have H0R := hide h0r
  clear h0r H0
  clear hr
  go_enter Try.func29, Try.ntmps29
  go_wp2_with fail
  refine (H0R.out _).mono ?_; rintro e w1 ⟨rfl, hw1⟩
  have HT1 := hide (show TS w R b l c l c 1 { data := #[] } w1 by rw [hw1]; exact HT0.out)
  clear hw1 q0 q1 q2 q3 HT0 H0R
  have v0 := cell_heap (j := 0) HT1.out.v rfl
  have t0 := cell_heap (j := 0) HT1.out.t_ rfl
  have t1 := cell_heap (j := 1) HT1.out.t_ rfl
  have t2 := cell_heap (j := 2) HT1.out.t_ rfl
  have t3 := cell_heap (j := 3) HT1.out.t_ rfl
  have z0 := cell_heap (j := 0) HT1.out.z rfl
  have z1 := cell_heap (j := 1) HT1.out.z rfl
  have z2 := cell_heap (j := 2) HT1.out.z rfl
  have z3 := cell_heap (j := 3) HT1.out.z rfl
  have fz0 := frozen_heap (j := 0) HT1.out.z
  have fz1 := frozen_heap (j := 1) HT1.out.z
  have fz2 := frozen_heap (j := 2) HT1.out.z
  have fz3 := frozen_heap (j := 3) HT1.out.z
  have r0 := cell_heap (j := 0) HT1.out.r rfl
  have hpre := Try.strings_HasPrefix b ⟨#[47, 42]⟩ w1
  rw [show Lib.hasPrefix b.data.toList (⟨#[47, 42]⟩ : ByteArray).data.toList = false from hp] at hpre
  have HPRE := hide hpre
  clear hpre
  go_wp2_with fail
  refine HPRE.out.mono ?_; rintro e w2 ⟨rfl, rfl⟩
  go_wp2_with fail
  refine (take_int R b _ 1 l c _ (by omega) (by omega) hl (by omega) hc (by omega) HT1.out.r).mono ?_; rintro e w4 ⟨rfl, ho, hr2⟩
  have HT2 := hide (HT1.out.took ho hr2)
  clear ho hr2 HT1 HPRE
  clear v0 t0 t1 t2 t3 z0 z1 z2 z3 fz0 fz1 fz2 fz3 r0
  have v0 := cell_heap (j := 0) HT2.out.v rfl
  have t0 := cell_heap (j := 0) HT2.out.t_ rfl
  have t1 := cell_heap (j := 1) HT2.out.t_ rfl
  have t2 := cell_heap (j := 2) HT2.out.t_ rfl
  have t3 := cell_heap (j := 3) HT2.out.t_ rfl
  have z0 := cell_heap (j := 0) HT2.out.z rfl
  have z1 := cell_heap (j := 1) HT2.out.z rfl
  have z2 := cell_heap (j := 2) HT2.out.z rfl
  have z3 := cell_heap (j := 3) HT2.out.z rfl
  have fz0 := frozen_heap (j := 0) HT2.out.z
  have fz1 := frozen_heap (j := 1) HT2.out.z
  have fz2 := frozen_heap (j := 2) HT2.out.z
  have fz3 := frozen_heap (j := 3) HT2.out.z
  have r0 := cell_heap (j := 0) HT2.out.r rfl
  have ft0 := frozen_heap (j := 0) HT2.out.t_
  have ft1 := frozen_heap (j := 1) HT2.out.t_
  go_wp2_with fail
  have HT3 := hide ((HT2.out.set_k (2 + r)).set_t (b.extract 0 1))
  refine bodyPost_ret (v := .tuple #[.agg #[.int .u8 (2 + r), .string (b.extract 0 1), .int .i64 l, .int .i64 c], .bool true, .int .i64 0]) (by simp [results, Try.results29, go_sem, z0, z1, z2, z3]) rfl ?_
  refine ⟨(HT3.out.out _ _ _ _).1, .inr ?_⟩
  rw [HST.out]
  exact ⟨rfl, _, _, T_head b 1, T_tail b 1, rfl, (HT3.out.out _ _ _ _).2⟩

set_option maxRecDepth 100000 in
set_option maxHeartbeats 1000000 in
theorem token_word (R : Nat) (b : ByteArray) (l c : Int) (w : World) (hb0 : 0 < b.size) (hbs : b.size ≤ 65536) (hl : 1 ≤ l) (hl2 : l + b.size ≤ 1000000) (hc : 1 ≤ c) (hc2 : c + b.size ≤ 1000000) (hr : RdR w R b l c)
    (hx : ¬ (b[0].toNat : Int) = 32 ∧ ¬ (b[0].toNat : Int) = 10 ∧ ¬ (b[0].toNat : Int) = 35 ∧ ¬ (b[0].toNat : Int) = 34) (hp : Lib.hasPrefix (T b) [47, 42] = false) (hr0 : ¬ 0 ≤ Lib.indexByte signs b[0]) (hst : step (T b) = ⟨false, true, 1, (T b).take (firstN isEnd (T b)), firstN isEnd (T b)⟩) :
    Calls Try.prog 29 #[.pointer (some ⟨R, 0, none⟩)] w (TokPost R b l c w) := by
  have q0 := fun o => cell_heap (j := 0) (heap_old (p := o) hr) rfl
  have q1 := fun o o2 => cell_heap (j := 1) (heap_old (p := o2) (heap_old (p := o) hr)) rfl
  have q2 := fun o o2 => cell_heap (j := 2) (heap_old (p := o2) (heap_old (p := o) hr)) rfl
  have q3 := fun o o2 o3 => cell_heap (j := 0) (heap_old (p := o3) (heap_old (p := o2) (heap_old (p := o) hr))) rfl
  have HT0 := hide (ts_start w R b l c hr)
  have H0 := hide (fun W => Try.strings_IndexByte ⟨#[123, 125, 59, 91, 93]⟩ b[0].toNat W)
  have HST := hide hst
  clear hst
  obtain ⟨hx1', hx2', hx3', hx4'⟩ := hx
  have hx1 : ((b[0].toNat : Int) == 32) = false := beq_if (by omega)
  have hx2 : ((b[0].toNat : Int) == 10) = false := beq_if (by omega)
  have hx3 : ((b[0].toNat : Int) == 35) = false := beq_if (by omega)
  have hx4 : ((b[0].toNat : Int) == 34) = false := beq_if (by omega)
  have h0r := fun W => Try.strings_IndexByte ⟨#[123, 125, 59, 91, 93]⟩ b[0].toNat W
  simp only [sign_eq b hb0] at h0r
  have hlt5 := indexByte_lt b[0] signs
  have hlt6 : Lib.indexByte signs b[0] < 5 := hlt5
  clear hlt5
  generalize Lib.indexByte signs b[0] = r at *
  have H0R := hide h0r
  clear h0r H0
  clear hr
  go_enter Try.func29, Try.ntmps29
  go_wp2_with fail
  refine (H0R.out _).mono ?_; rintro e w1 ⟨rfl, hw1⟩
  have HT1 := hide (show TS w R b l c l c 1 { data := #[] } w1 by rw [hw1]; exact HT0.out)
  clear hw1 q0 q1 q2 q3 HT0 H0R
  have v0 := cell_heap (j := 0) HT1.out.v rfl
  have t0 := cell_heap (j := 0) HT1.out.t_ rfl
  have t1 := cell_heap (j := 1) HT1.out.t_ rfl
  have t2 := cell_heap (j := 2) HT1.out.t_ rfl
  have t3 := cell_heap (j := 3) HT1.out.t_ rfl
  have z0 := cell_heap (j := 0) HT1.out.z rfl
  have z1 := cell_heap (j := 1) HT1.out.z rfl
  have z2 := cell_heap (j := 2) HT1.out.z rfl
  have z3 := cell_heap (j := 3) HT1.out.z rfl
  have fz0 := frozen_heap (j := 0) HT1.out.z
  have fz1 := frozen_heap (j := 1) HT1.out.z
  have fz2 := frozen_heap (j := 2) HT1.out.z
  have fz3 := frozen_heap (j := 3) HT1.out.z
  have r0 := cell_heap (j := 0) HT1.out.r rfl
  have hpre := Try.strings_HasPrefix b ⟨#[47, 42]⟩ w1
  rw [show Lib.hasPrefix b.data.toList (⟨#[47, 42]⟩ : ByteArray).data.toList = false from hp] at hpre
  have HPRE := hide hpre
  clear hpre
  have HN := hide (firstN_le isEnd (T b))
  have HU := hide (until2_any R b w1.drew (by omega) r0)
  generalize hgn : firstN isEnd (T b) = n at *
  have HGN := hide hgn
  clear hgn
  have hn : n ≤ b.size := by have := HN.out; rw [T_len] at this; exact this
  have hr0' : r < 0 := by omega
  have hr0d : decide (0 ≤ r) = false := by simp; omega
  clear hr0 hlt6
  go_wp2_with fail
  refine HPRE.out.mono ?_; rintro e w2 ⟨rfl, rfl⟩
  go_wp2_with fail
  refine wp_region_still_tail 5 (by kernel_rfl) (by kernel_rfl) ?_
  simp only [List.take_succ_cons, List.take_zero, List.drop_succ_cons, List.drop_zero]
  repeat still_step
  still_call (calls_flip HU.out)
  refine wpStill_nil ?_
  go_wp2_with fail
  refine (take_int R b _ n l c _ rfl hn hl (by omega) hc (by omega) HT1.out.drew.r).mono ?_; rintro e w4 ⟨rfl, ho, hr2⟩
  have HT2 := hide (HT1.out.drew.took ho hr2)
  clear ho hr2 HT1 HPRE
  clear v0 t0 t1 t2 t3 z0 z1 z2 z3 fz0 fz1 fz2 fz3 r0
  have v0 := cell_heap (j := 0) HT2.out.v rfl
  have t0 := cell_heap (j := 0) HT2.out.t_ rfl
  have t1 := cell_heap (j := 1) HT2.out.t_ rfl
  have t2 := cell_heap (j := 2) HT2.out.t_ rfl
  have t3 := cell_heap (j := 3) HT2.out.t_ rfl
  have z0 := cell_heap (j := 0) HT2.out.z rfl
  have z1 := cell_heap (j := 1) HT2.out.z rfl
  have z2 := cell_heap (j := 2) HT2.out.z rfl
  have z3 := cell_heap (j := 3) HT2.out.z rfl
  have fz0 := frozen_heap (j := 0) HT2.out.z
  have fz1 := frozen_heap (j := 1) HT2.out.z
  have fz2 := frozen_heap (j := 2) HT2.out.z
  have fz3 := frozen_heap (j := 3) HT2.out.z
  have r0 := cell_heap (j := 0) HT2.out.r rfl
  have ft1 := frozen_heap (j := 1) HT2.out.t_
  go_wp2_with fail
  have HT3 := hide (HT2.out.set_t (b.extract 0 n))
  refine bodyPost_ret (v := .tuple #[.agg #[.int .u8 1, .string (b.extract 0 n), .int .i64 l, .int .i64 c], .bool true, .int .i64 0]) (by simp [results, Try.results29, go_sem, z0, z1, z2, z3]) rfl ?_
  refine ⟨(HT3.out.out _ _ _ _).1, .inr ?_⟩
  rw [HST.out]
  exact ⟨rfl, _, _, T_head b n, T_tail b n, rfl, (HT3.out.out _ _ _ _).2⟩
end Go.Proofs.Ytihmmmodimionaa.Lx
namespace Go.Proofs.Ytihmmmodimionaa.Lx
open Go.RowKit

theorem T_cons (b : ByteArray) (h : 0 < b.size) : T b = b[0] :: (T b).drop 1 := by
  have := T_drop b 0 h
  rwa [List.drop_zero] at this
theorem head_T (b : ByteArray) (h : 0 < b.size) : (T b).headD 0 = b[0] := by rw [T_cons b h]; rfl
theorem u8_int (x : UInt8) (n : Nat) (h : n < 256) : x = UInt8.ofNat n ↔ (x.toNat : Int) = n := by rw [u8_eq x n h]; omega

theorem token_any (R : Nat) (b : ByteArray) (l c : Int) (w : World) (hb0 : 0 < b.size) (hbs : b.size ≤ 65536) (hl : 1 ≤ l) (hl2 : l + b.size ≤ 1000000) (hc : 1 ≤ c) (hc2 : c + b.size ≤ 1000000) (hr : RdR w R b l c)
    (hR : R ≠ 0) (m : Int) (hm : w.cell? ⟨0, 0, none⟩ = some (.int .i64 m)) (hok : ∀ x ∈ T b, x = 10 ∨ (32 ≤ x.toNat ∧ x.toNat ≤ 126)) :
    Calls Try.prog 29 #[.pointer (some ⟨R, 0, none⟩)] w (TokPost R b l c w) := by
  have hh := head_T b hb0
  have e32 : b[0] = 32 ↔ (b[0].toNat : Int) = 32 := u8_int b[0] 32 (by omega)
  have e10 : b[0] = 10 ↔ (b[0].toNat : Int) = 10 := u8_int b[0] 10 (by omega)
  have e35 : b[0] = 35 ↔ (b[0].toNat : Int) = 35 := u8_int b[0] 35 (by omega)
  have e34 : b[0] = 34 ↔ (b[0].toNat : Int) = 34 := u8_int b[0] 34 (by omega)
  have hs : step (T b) = step (T b) := rfl
  conv at hs => rhs; unfold step; rw [hh]
  by_cases h1 : b[0] = 32 ∨ b[0] = 10
  · rw [if_pos h1] at hs
    exact token_blank R b l c w hb0 hbs hl hl2 hc hc2 hr (by rcases h1 with h | h; exact .inl (e32.1 h); exact .inr (e10.1 h)) hs
  rw [if_neg h1] at hs
  have n32 : ¬ (b[0].toNat : Int) = 32 := fun h => h1 (.inl (e32.2 h))
  have n10 : ¬ (b[0].toNat : Int) = 10 := fun h => h1 (.inr (e10.2 h))
  by_cases h2 : b[0] = 35
  · rw [if_pos h2] at hs
    exact token_hash R b l c w hb0 hbs hl hl2 hc hc2 hr (e35.1 h2) hs
  rw [if_neg h2] at hs
  have n35 : ¬ (b[0].toNat : Int) = 35 := fun h => h2 (e35.2 h)
  cases hp : Lib.hasPrefix (T b) [47, 42]
  · rw [if_neg (by rw [hp]; decide)] at hs
    by_cases h3 : b[0] = 34
    · rw [if_pos h3] at hs
      have hasc : ∀ (j : Nat) (x : UInt8), ((T b).drop 1)[j]? = some x → x.toNat < 128 := fun j x hx => by
        have hmem : x ∈ T b := List.mem_of_mem_drop (List.mem_of_getElem? hx)
        rcases hok x hmem with h | h
        · rw [h]; decide
        · omega
      by_cases h4 : Lib.indexAny ((T b).drop 1) [34, 10] < 0
      · rw [if_pos (.inl h4)] at hs
        exact token_q1 R b l c w hb0 hbs hl hl2 hc hc2 hr (e34.1 h3) hasc hp h4 hs
      · by_cases h5 : (T b).getD ((Lib.indexAny ((T b).drop 1) [34, 10]).toNat + 1) 0 = 10
        · rw [if_pos (.inr h5)] at hs
          exact token_q2 R b l c w hb0 hbs hl hl2 hc hc2 hr (e34.1 h3) hasc hp (by omega) h5 hs
        · rw [if_neg (fun h => h.elim h4 h5)] at hs
          exact token_q3 R b l c w hb0 hbs hl hl2 hc hc2 hr (e34.1 h3) hasc hp (by omega) h5 hs
    · rw [if_neg h3] at hs
      have n34 : ¬ (b[0].toNat : Int) = 34 := fun h => h3 (e34.2 h)
      by_cases h6 : (0 : Int) ≤ Lib.indexByte signs b[0]
      · rw [if_pos h6] at hs
        exact token_sign R b l c w hb0 hbs hl hl2 hc hc2 hr ⟨n32, n10, n35, n34⟩ hp h6 hs
      · rw [if_neg h6] at hs
        exact token_word R b l c w hb0 hbs hl hl2 hc hc2 hr ⟨n32, n10, n35, n34⟩ hp h6 hs
  · rw [if_pos hp] at hs
    by_cases h4 : Lib.index ((T b).drop 2) [42, 47] < 0
    · rw [if_pos h4] at hs
      exact token_open R b l c w hb0 hbs hl hl2 hc hc2 hr ⟨n32, n10, n35⟩ hR m hm hp h4 hs
    · rw [if_neg h4] at hs
      exact token_comment R b l c w hb0 hbs hl hl2 hc hc2 hr ⟨n32, n10, n35⟩ hR m hm hp (by omega) hs

/-- what a step takes: at least one byte, and no more than there are -/
theorem step_n (s : List UInt8) (h : s ≠ []) (he : (step s).err = false) : 1 ≤ (step s).n ∧ (step s).n ≤ s.length := by
  obtain ⟨x, xs, rfl⟩ := List.exists_cons_of_ne_nil h
  have hs : step (x :: xs) = step (x :: xs) := rfl
  conv at hs => rhs; unfold step; rw [show (x :: xs).headD 0 = x from rfl]
  by_cases h1 : x = 32 ∨ x = 10
  · rw [if_pos h1] at hs
    rw [hs]; simp
  rw [if_neg h1] at hs
  by_cases h2 : x = 35
  · rw [if_pos h2] at hs
    rw [hs]
    have := firstN_le is10 (x :: xs)
    refine ⟨?_, this⟩
    show 1 ≤ firstN is10 (x :: xs)
    rw [firstN, if_neg (by simp [is10, h2])]; omega
  rw [if_neg h2] at hs
  by_cases h3 : Lib.hasPrefix (x :: xs) [47, 42] = true
  · rw [if_pos h3] at hs
    by_cases h4 : Lib.index ((x :: xs).drop 2) [42, 47] < 0
    · rw [if_pos h4] at hs
      rw [hs] at he; cases he
    · rw [if_neg h4] at hs
      rw [hs]
      have := index_bound [42, 47] ((x :: xs).drop 2) (by omega)
      have hl := (List.isPrefixOf_iff_prefix.1 h3).length_le
      simp only [List.length_drop, List.length_cons, List.length_nil] at this hl ⊢
      omega
  rw [if_neg h3] at hs
  by_cases h4 : x = 34
  · rw [if_pos h4] at hs
    by_cases h5 : Lib.indexAny ((x :: xs).drop 1) [34, 10] < 0 ∨ (x :: xs).getD ((Lib.indexAny ((x :: xs).drop 1) [34, 10]).toNat + 1) 0 = 10
    · rw [if_pos h5] at hs
      rw [hs] at he; cases he
    · rw [if_neg h5] at hs
      rw [hs]
      have h6 : ¬ Lib.indexAny ((x :: xs).drop 1) [34, 10] < 0 := fun h => h5 (.inl h)
      have := indexAny_bound [34, 10] ((x :: xs).drop 1) (by omega)
      simp only [List.length_drop, List.length_cons] at this ⊢
      omega
  rw [if_neg h4] at hs
  by_cases h5 : (0 : Int) ≤ Lib.indexByte signs x
  · rw [if_pos h5] at hs
    rw [hs]; simp
  · rw [if_neg h5] at hs
    rw [hs]
    have := firstN_le isEnd (x :: xs)
    refine ⟨?_, this⟩
    show 1 ≤ firstN isEnd (x :: xs)
    rw [firstN, if_neg]
    · omega
    · intro hend
      rw [isEnd] at hend
      have hq : Lib.hasPrefix (x :: xs) [47, 42] = false := by simpa using h3
      rw [hq, Bool.or_false, decide_eq_true_eq] at hend
      have n32 : (32 == x) = false := beq_eq_false_iff_ne.2 (fun h => h1 (.inl h.symm))
      have n10 : (10 == x) = false := beq_eq_false_iff_ne.2 (fun h => h1 (.inr h.symm))
      have n35 : (35 == x) = false := beq_eq_false_iff_ne.2 (fun h => h2 h.symm)
      have n34 : (34 == x) = false := beq_eq_false_iff_ne.2 (fun h => h4 h.symm)
      simp only [Lib.indexByte, signs] at h5
      simp only [Lib.indexByte, endB, n32, n10, n34, n35] at hend
      cases c1 : ((123 : UInt8) == x) <;> cases c2 : ((125 : UInt8) == x) <;> cases c3 : ((59 : UInt8) == x) <;> cases c4 : ((91 : UInt8) == x) <;> cases c5 : ((93 : UInt8) == x) <;> simp [c1, c2, c3, c4, c5] at h5 hend
end Go.Proofs.Ytihmmmodimionaa.Lx
