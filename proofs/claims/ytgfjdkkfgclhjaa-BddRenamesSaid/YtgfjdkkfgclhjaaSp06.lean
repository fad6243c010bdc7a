/- What the claim leans on, part 6 of 7: PM CT CU PS CL CM CV KB. -/
import Derived.ChangeMaps5
import Derived.Deep.Grids
import Derived.Deep.Slices
import Derived.HandedShaped
import Derived.Maps.AppendAt
import Derived.OpenShut
import Derived.ProofKit
import Derived.Test.YtgfjdkkfgclhjaaRows
import Derived.Test.YtgfjdkkfgclhjaaSp01
import Derived.Test.YtgfjdkkfgclhjaaSp02
import Derived.Test.YtgfjdkkfgclhjaaSp03
import Derived.Test.YtgfjdkkfgclhjaaSp04
import Derived.Test.YtgfjdkkfgclhjaaSp05
/- What made makes, in plain words: functions out of bytes; over how many variables. No step of a program is in sight. -/
namespace Go.Proofs.Ytgfjdkkfgclhjaa.Bd
open Go.RowKit Go.Proofs.Ytgfjdkkfgclhjaa Go.Proofs.Ytgfjdkkfgclhjaa.Lx Go.Maps

def atF (fs : List (Env → Bool)) (j : Nat) : Env → Bool := (fs[j]?).getD (fun _ => false)
def stepF (V flip : Nat) (fs : List (Env → Bool)) (op : Nat) : Env → Bool :=
  if op % 8 = 0 then fun ρ => !atF fs (fs.length - 1) ρ
  else if op % 8 = 1 then fun ρ => atF fs (fs.length - 1) ρ && atF fs (op / 8 % fs.length) ρ
  else if op % 8 = 2 then fun ρ => atF fs (fs.length - 1) ρ || atF fs (op / 8 % fs.length) ρ
  else if op % 8 = 3 then fun ρ => if atF fs (fs.length - 1) ρ then !atF fs (op / 8 % fs.length) ρ else atF fs (op / 8 % fs.length) ρ
  else fun ρ => ρ ((op / 8 % V) ^^^ flip)
def runF (V flip : Nat) (fs : List (Env → Bool)) : List Nat → List (Env → Bool)
  | [] => fs
  | op :: ops => runF V flip (fs ++ [stepF V flip fs op]) ops
def fs0 : List (Env → Bool) := [fun _ => false, fun _ => true]
def madeF (V flip : Nat) (ops : List Nat) : Env → Bool := atF (runF V flip fs0 (ops.take 40)) ((runF V flip fs0 (ops.take 40)).length - 1)
theorem runF_len (V flip : Nat) : ∀ (ops : List Nat) (fs : List (Env → Bool)), (runF V flip fs ops).length = fs.length + ops.length := by
  intro ops
  induction ops with
  | nil => intro fs; rfl
  | cons x xs ih => intro fs; unfold runF; rw [ih]; simp; omega
theorem runF_app (V flip : Nat) : ∀ (a b : List Nat) (fs : List (Env → Bool)), runF V flip fs (a ++ b) = runF V flip (runF V flip fs a) b := by
  intro a
  induction a with
  | nil => intro b fs; rfl
  | cons x xs ih => intro b fs; exact ih b _
theorem runF_next {V flip : Nat} {ops : List Nat} {i op : Nat} {fs : List (Env → Bool)} (h : ops[i]? = some op) : runF V flip fs (ops.take (i + 1)) = runF V flip fs (ops.take i) ++ [stepF V flip (runF V flip fs (ops.take i)) op] := by
  rw [List.take_add_one, h, runF_app]
  rfl
/-- the variables' numbers, each with its lowest bit turned -/
def turnE (flip : Nat) (ρ : Env) : Env := fun v => ρ (v ^^^ flip)
theorem runF_flip {V flip : Nat} (ρ : Env) : ∀ (ops : List Nat) (fs fs' : List (Env → Bool)), fs.length = fs'.length → (∀ j, atF fs' j ρ = atF fs j (turnE flip ρ)) → ∀ j, atF (runF V flip fs' ops) j ρ = atF (runF V 0 fs ops) j (turnE flip ρ) := by
  intro ops
  induction ops with
  | nil => intro fs fs' _ h j; exact h j
  | cons op ops ih =>
    intro fs fs' hl h j
    refine ih (fs ++ [stepF V 0 fs op]) (fs' ++ [stepF V flip fs' op]) (by simp [hl]) (fun j => ?_) j
    rcases Nat.lt_trichotomy j fs.length with hj | hj | hj
    · have := h j
      unfold atF at this ⊢
      rw [List.getElem?_append_left hj, List.getElem?_append_left (by omega)]
      exact this
    · unfold atF
      rw [hj, List.getElem?_append_right (Nat.le_refl _), List.getElem?_append_right (by omega)]
      simp only [hl, Nat.sub_self, List.getElem?_cons_zero, Option.getD_some]
      unfold stepF
      rw [← hl]
      have h1 := h (fs.length - 1)
      have h2 := h (op / 8 % fs.length)
      repeat' split
      all_goals simp_all [turnE, Nat.xor_zero]
    · unfold atF
      rw [List.getElem?_eq_none (by simp; omega), List.getElem?_eq_none (by simp; omega)]
      rfl
theorem madeF_flip (V flip : Nat) (ops : List Nat) : madeF V flip ops = fun ρ => madeF V 0 ops (turnE flip ρ) := by
  funext ρ
  unfold madeF
  have e : (runF V flip fs0 (ops.take 40)).length = (runF V 0 fs0 (ops.take 40)).length := by rw [runF_len, runF_len]
  rw [e]
  refine runF_flip ρ _ fs0 fs0 rfl (fun j => ?_) _
  unfold atF fs0
  match j with
  | 0 => rfl
  | 1 => rfl
  | j + 2 => rfl

/-! ### over how many variables -/
theorem nS_or (S T : Nat → Bool) (v : Nat) : nS (fun x => S x || T x) v ≤ nS S v + nS T v := by
  unfold nS
  induction List.range (256 - v) with
  | nil => simp
  | cons x xs ih =>
    have ih : (xs.filter fun x => S (v + x) || T (v + x)).length ≤ (xs.filter fun x => S (v + x)).length + (xs.filter fun x => T (v + x)).length := ih
    simp only [List.filter_cons]
    cases S (v + x) <;> cases T (v + x) <;> simp <;> omega
abbrev Cmp := (Nat → Bool) × Nat
def sumC (Cs : List Cmp) : Nat := (Cs.map Prod.snd).sum
theorem sumC_cons (C : Cmp) (Cs : List Cmp) : sumC (C :: Cs) = C.2 + sumC Cs := by simp [sumC]
theorem sumC_pick {Cs : List Cmp} {C : Cmp} (h : C ∈ Cs) : ∃ R, (∀ z, z ∈ Cs ↔ z = C ∨ z ∈ R) ∧ sumC Cs = C.2 + sumC R := by
  obtain ⟨a, b, rfl⟩ := List.append_of_mem h
  refine ⟨a ++ b, fun z => ?_, ?_⟩
  · simp only [List.mem_append, List.mem_cons]
    constructor
    · rintro (h | h | h)
      · exact .inr (.inl h)
      · exact .inl h
      · exact .inr (.inr h)
    · rintro (h | h | h)
      · exact .inr (.inl h)
      · exact .inl h
      · exact .inr (.inr h)
  · simp [sumC, List.sum_append]; omega
/-- nodes that are functions; their variables stand in groups, none of them larger than what was done -/
structure Fam (s : St) (ns : List Nat) (fs : List (Env → Bool)) (Cs : List Cmp) (t : Nat) : Prop where
  len : ns.length = fs.length
  nod : ∀ (j n : Nat), ns[j]? = some n → ∃ C ∈ Cs, Nod s n C.1 (atF fs j)
  sz : ∀ C ∈ Cs, 2 * nS C.1 0 ≤ C.2 + 1
  sum : sumC Cs ≤ t
  sub : ∀ C ∈ Cs, ∀ x, C.1 x = true → x < 32
variable {s s' : St} {ns : List Nat} {fs : List (Env → Bool)} {Cs : List Cmp} {t : Nat}
theorem atF_old {H : Env → Bool} {j : Nat} (h : j < fs.length) : atF (fs ++ [H]) j = atF fs j := by unfold atF; rw [List.getElem?_append_left h]
theorem atF_new {H : Env → Bool} : atF (fs ++ [H]) fs.length = H := by unfold atF; rw [List.getElem?_append_right (Nat.le_refl _)]; simp
theorem Fam.grow (h : Fam s ns fs Cs t) {Cs' : List Cmp} (E : Ext s s') (hc : ∀ C ∈ Cs, ∃ C' ∈ Cs', ∀ x, C.1 x = true → C'.1 x = true) (hz : ∀ C ∈ Cs', 2 * nS C.1 0 ≤ C.2 + 1) (hs : sumC Cs' ≤ t + 1) (hb : ∀ C ∈ Cs', ∀ x, C.1 x = true → x < 32) {D : Cmp} (hD : D ∈ Cs') {r : Nat} {H : Env → Bool} (hr : Nod s' r D.1 H) : Fam s' (ns ++ [r]) (fs ++ [H]) Cs' (t + 1) := by
  refine ⟨by simp [h.len], fun j n hj => ?_, hz, hs, hb⟩
  rcases Nat.lt_or_ge j ns.length with hlt | hge
  · rw [List.getElem?_append_left hlt] at hj
    obtain ⟨C, hC, hn⟩ := h.nod j n hj
    obtain ⟨C', hC', hx⟩ := hc C hC
    rw [atF_old (by rw [← h.len]; exact hlt)]
    exact ⟨C', hC', (hn.ext E).mono hx⟩
  · have hl := lt_of_some hj
    simp at hl
    have e : j = ns.length := by omega
    subst e
    rw [List.getElem?_append_right (Nat.le_refl _)] at hj
    simp at hj
    subst hj
    rw [h.len, atF_new]
    exact ⟨D, hD, hr⟩
theorem Fam.bin (h : Fam s ns fs Cs t) {i j f g : Nat} (hi : ns[i]? = some f) (hj : ns[j]? = some g) : ∃ S, 2 * nS S 0 ≤ t + 2 ∧ Nod s f S (atF fs i) ∧ Nod s g S (atF fs j) ∧ ∀ (s' : St) (r : Nat) (H : Env → Bool), Ext s s' → Nod s' r S H → ∃ Cs', Fam s' (ns ++ [r]) (fs ++ [H]) Cs' (t + 1) := by
  obtain ⟨C, hC, nf⟩ := h.nod i f hi
  obtain ⟨D, hD, ng⟩ := h.nod j g hj
  obtain ⟨R, hR, sR⟩ := sumC_pick hC
  have hsum := h.sum
  have zC := h.sz C hC
  rcases (hR D).1 hD with e | hDR
  · subst e
    refine ⟨D.1, by omega, nf, ng, fun s' r H E hr => ⟨Cs, h.grow E (fun C hC => ⟨C, hC, fun _ h => h⟩) h.sz (by omega) h.sub hD hr⟩⟩
  · obtain ⟨R2, hR2, sR2⟩ := sumC_pick hDR
    have zD := h.sz D hD
    have ho := nS_or C.1 D.1 0
    refine ⟨fun x => C.1 x || D.1 x, by omega, nf.mono (fun x hx => by simp [hx]), ng.mono (fun x hx => by simp [hx]), fun s' r H E hr => ⟨((fun x => C.1 x || D.1 x), C.2 + D.2 + 1) :: R2, h.grow E (fun z hz => ?_) (fun z hz => ?_) (by rw [sumC_cons]; simp only; omega) (fun z hz => ?_) (List.mem_cons_self) hr⟩⟩
    · rcases (hR z).1 hz with e | hz
      · exact ⟨_, List.mem_cons_self, fun x hx => by subst e; simp [hx]⟩
      · rcases (hR2 z).1 hz with e | hz
        · exact ⟨_, List.mem_cons_self, fun x hx => by subst e; simp [hx]⟩
        · exact ⟨z, List.mem_cons_of_mem _ hz, fun _ h => h⟩
    · rcases List.mem_cons.1 hz with e | hz
      · subst e; simp only; omega
      · exact h.sz z ((hR z).2 (.inr ((hR2 z).2 (.inr hz))))
    · rcases List.mem_cons.1 hz with e | hz
      · subst e
        intro x hx
        simp only [Bool.or_eq_true] at hx
        rcases hx with hx | hx
        · exact h.sub C hC x hx
        · exact h.sub D hD x hx
      · exact h.sub z ((hR z).2 (.inr ((hR2 z).2 (.inr hz))))
theorem Fam.var (h : Fam s ns fs Cs t) {v : Nat} (hv : v < 32) {r : Nat} {H : Env → Bool} (E : Ext s s') (hr : Nod s' r (oneS v) H) : ∃ Cs', Fam s' (ns ++ [r]) (fs ++ [H]) Cs' (t + 1) := by
  have hsum := h.sum
  have h1 := nS_one v
  refine ⟨(oneS v, 1) :: Cs, h.grow E (fun C hC => ⟨C, List.mem_cons_of_mem _ hC, fun _ h => h⟩) (fun z hz => ?_) (by rw [sumC_cons]; simp only; omega) (fun z hz => ?_) List.mem_cons_self hr⟩
  · rcases List.mem_cons.1 hz with e | hz
    · subst e; simp only; omega
    · exact h.sz z hz
  · rcases List.mem_cons.1 hz with e | hz
    · subst e
      intro x hx
      unfold oneS at hx
      simp at hx
      omega
    · exact h.sub z hz
theorem Fam.last (h : Fam s ns fs Cs t) {j f : Nat} (hj : ns[j]? = some f) : ∃ S, 2 * nS S 0 ≤ t + 1 ∧ (∀ x, S x = true → x < 32) ∧ Nod s f S (atF fs j) := by
  obtain ⟨C, hC, nf⟩ := h.nod j f hj
  obtain ⟨R, hR, sR⟩ := sumC_pick hC
  have hsum := h.sum
  have zC := h.sz C hC
  exact ⟨C.1, by omega, h.sub C hC, nf⟩
theorem nS_none : nS (fun _ => false) 0 = 0 := by
  unfold nS
  rw [List.length_eq_zero_iff, List.filter_eq_nil_iff]
  intro x _; simp
theorem fam_start {w : World} {k : Blk} (L : Live w k s) : Fam s [0, 1] fs0 [((fun _ => false), 0)] 0 := by
  refine ⟨rfl, fun j n hj => ⟨_, List.mem_singleton_self _, ?_⟩, fun C hC => ?_, Nat.le_refl _, fun C hC x hx => ?_⟩
  · match j, hj with
    | 0, hj => simp at hj; subst hj; exact L.no _
    | 1, hj => simp at hj; subst hj; exact L.yes _
    | j + 2, hj => simp at hj
  · have := List.mem_singleton.1 hC
    subst this
    simp only
    rw [nS_none]; omega
  · have := List.mem_singleton.1 hC
    subst this
    cases hx
/-- what the first operations cost, at most: nodes held; cells of the tables -/
def bud : Nat → Nat
  | 0 => 0
  | t + 1 => bud t + (2 ^ ((t + 2) / 2 - 3) + 255)
def budm : Nat → Nat
  | 0 => 0
  | t + 1 => budm t + 2 ^ ((t + 2) / 2 + 2)
theorem bud_mono {a b : Nat} (h : a ≤ b) : bud a ≤ bud b := by
  induction h with
  | refl => exact Nat.le_refl _
  | @step m _ ih => exact Nat.le_trans ih (Nat.le_add_right (bud m) _)
theorem budm_mono {a b : Nat} (h : a ≤ b) : budm a ≤ budm b := by
  induction h with
  | refl => exact Nat.le_refl _
  | @step m _ ih => exact Nat.le_trans ih (Nat.le_add_right (budm m) _)
theorem bud_40 : bud 40 = 534490 := by decide
theorem budm_40 : budm 40 = 16777200 := by decide
end Go.Proofs.Ytgfjdkkfgclhjaa.Bd
/- made: what stands in its loop. -/
namespace Go.Proofs.Ytgfjdkkfgclhjaa.Bd
open Go.RowKit Go.Proofs.Ytgfjdkkfgclhjaa Go.Proofs.Ytgfjdkkfgclhjaa.Lx Go.Maps

theorem own_full {w : World} {base size n : Nat} {e : TypeId} {v : Value} {xs : List Value} (h : w.ownsRow base e size v n xs) (hn : 0 < n) : ∃ g c, v = .slice (some ⟨g, 0, none⟩) n c ∧ base ≤ g ∧ g < w.heap.size := by
  have hl := h.lt
  rcases h.2 with ⟨h1, h2⟩ | ⟨g, cap, cur, h1, h2⟩
  · omega
  · subst h1
    exact ⟨g, cap, rfl, hl g rfl⟩
theorem Live.same {w w' : World} {k : Blk} {s : St} (h : Live w k s) (hs : ∀ i, fp k i → w'.heap[i]? = w.heap[i]?) : Live w' k s := by
  obtain ⟨⟨fb, ft, H, I⟩, a, b, c⟩ := h
  exact ⟨⟨fb, ft, H.same hs, I⟩, a, b, c⟩
theorem Turn.far {k k' : Blk} {w w1 w2 : World} {g : Nat} (T : Turn k k' w w1) (hg : w1.grownBy w2 (some g)) (h : w.heap.size ≤ g) : Turn k k' w w2 := by
  have hs := T.size
  refine ⟨hg.os.trans T.os, hg.tape.trans T.tape, hg.output.trans T.output, Nat.le_trans T.size hg.size, T.p, T.bm, T.it, T.gi, T.he, T.row, fun i hi hf => ?_⟩
  rw [hg.block i (by omega) (fun e => by injection e with e; omega)]
  exact T.block i hi hf
/-- after i operations: l's row, the arena -/
structure Mk (flip : Nat) (ops : List Nat) (k0 : Blk) (s0 : St) (w : World) (i : Nat) (v : Value) (wr : World) (k : Blk) (s : St) (ns : List Nat) (Cs : List Cmp) : Prop where
  L : Live wr k s
  T : Turn k0 k w wr
  E : Ext s0 s
  m : s.m ≤ s0.m + budm i
  hn : s.hn ≤ s0.hn + bud i
  gn : s.gn ≤ s0.gn + i
  fam : Fam s ns (runF s0.vs flip fs0 (ops.take i)) Cs i
  len : ns.length = i + 2
  own : wr.ownsRow w.heap.size 3 1 v ns.length ((encL ns).map encI)
  nf : ∀ g, v.ownBlock = some g → ¬ fp k g
/-- between the operation and the append -/
structure MkX (flip : Nat) (ops : List Nat) (k0 : Blk) (s0 : St) (w : World) (i : Nat) (v : Value) (wr : World) (k : Blk) (s : St) (ns : List Nat) (r : Nat) (Cs : List Cmp) : Prop where
  L : Live wr k s
  T : Turn k0 k w wr
  E : Ext s0 s
  m : s.m ≤ s0.m + budm (i + 1)
  hn : s.hn ≤ s0.hn + bud (i + 1)
  gn : s.gn ≤ s0.gn + (i + 1)
  fam : Fam s (ns ++ [r]) (runF s0.vs flip fs0 (ops.take (i + 1))) Cs (i + 1)
  len : ns.length = i + 2
  own : wr.ownsRow w.heap.size 3 1 v ns.length ((encL ns).map encI)
  nf : ∀ g, v.ownBlock = some g → ¬ fp k g
variable {flip : Nat} {ops : List Nat} {k0 k : Blk} {s0 s : St} {w wr : World} {i : Nat} {v : Value} {ns : List Nat} {Cs : List Cmp}
theorem Mk.slice (h : Mk flip ops k0 s0 w i v wr k s ns Cs) : ∃ g c, v = .slice (some ⟨g, 0, none⟩) (i + 2) c ∧ w.heap.size ≤ g ∧ g < wr.heap.size := by
  have := own_full h.own (by rw [h.len]; omega)
  rw [h.len] at this
  exact this
theorem Mk.flen (h : Mk flip ops k0 s0 w i v wr k s ns Cs) : (runF s0.vs flip fs0 (ops.take i)).length = i + 2 := by rw [← h.fam.len, h.len]
theorem Mk.at (h : Mk flip ops k0 s0 w i v wr k s ns Cs) {j : Nat} (hj : j < i + 2) : ∃ f, ns[j]? = some f := ⟨_, List.getElem?_eq_getElem (by rw [h.len]; exact hj)⟩
theorem Mk.room (h : Mk flip ops k0 s0 w i v wr k s ns Cs) (hi : i < 40) (hm : s0.m + budm 40 ≤ 1000000000) (hg : s0.gn + 40 ≤ 900000000) (hh : s0.hn + bud 40 ≤ s0.ms) : Room s ((i + 2) / 2) (2 ^ ((i + 2) / 2 + 2)) := by
  have h1 := h.m
  have h2 := h.hn
  have h3 := h.gn
  have e1 : budm (i + 1) = budm i + 2 ^ ((i + 2) / 2 + 2) := rfl
  have e2 : bud (i + 1) = bud i + (2 ^ ((i + 2) / 2 - 3) + 255) := rfl
  have m1 := budm_mono (show i + 1 ≤ 40 by omega)
  have m2 := bud_mono (show i + 1 ≤ 40 by omega)
  have e3 := h.E.ms
  generalize 2 ^ ((i + 2) / 2 + 2) = X at *
  generalize 2 ^ ((i + 2) / 2 - 3) = Y at *
  refine ⟨by omega, by omega, ?_⟩
  rw [e3]
  show s.hn + (2 ^ ((i + 2) / 2 - 3) + 255) ≤ s0.ms
  have e2 : bud (i + 1) = bud i + (2 ^ ((i + 2) / 2 - 3) + 255) := rfl
  omega
theorem Mk.step (h : Mk flip ops k0 s0 w i v wr k s ns Cs) {op : Nat} (hop : ops[i]? = some op) {S : Nat → Bool} {H : Env → Bool} (hH : stepF s0.vs flip (runF s0.vs flip fs0 (ops.take i)) op = H) {e : Ending} {w' : World} (ho : SemOut k s wr (2 ^ ((i + 2) / 2 + 2)) (held ((i + 2) / 2)) S H e w')
    (hf : ∀ (s' : St) (r : Nat), Ext s s' → Nod s' r S H → ∃ Cs', Fam s' (ns ++ [r]) (runF s0.vs flip fs0 (ops.take i) ++ [H]) Cs' (i + 1)) :
    ∃ (k' : Blk) (s' : St) (r : Nat) (Cs' : List Cmp), e = .returned (.tuple #[.int .i64 (r : Nat), .int .i64 0]) ∧ k'.p = k.p ∧ MkX flip ops k0 s0 w i v w' k' s' ns r Cs' := by
  obtain ⟨k', s', r, he, hL, hT, hE, hm, hn, hg, hN⟩ := ho
  obtain ⟨Cs', hF⟩ := hf s' r hE hN
  obtain ⟨g, c, rfl, hg1, hg2⟩ := h.slice
  have h1 := h.m
  have h2 := h.hn
  have h3 := h.gn
  have e1 : budm (i + 1) = budm i + 2 ^ ((i + 2) / 2 + 2) := rfl
  have e2 : bud (i + 1) = bud i + held ((i + 2) / 2) := rfl
  have hnf := h.nf g rfl
  refine ⟨k', s', r, Cs', he, hT.p, hL, h.T.trans hT, h.E.trans hE, by omega, by omega, by omega, ?_, h.len, ?_, fun g' hg' => ?_⟩
  · rw [runF_next hop, hH]; exact hF
  · exact own_block h.own (hT.block g hg2 hnf)
  · cases hg'
    exact hT.fpn hg2 hnf
theorem MkX.lay {r : Nat} (h : MkX flip ops k0 s0 w i v wr k s ns r Cs) (o : Obj) : MkX flip ops k0 s0 w i v (wr.alloc o) k s ns r Cs := by
  have hb := bel_one wr o
  exact ⟨h.L.below hb, h.T.trans (Turn.below hb), h.E, h.m, h.hn, h.gn, h.fam, h.len, h.own.alloc o, h.nf⟩
theorem MkX.done {r : Nat} {v' : Value} {w2 : World} (h : MkX flip ops k0 s0 w i v wr k s ns r Cs) (ho : w2.ownsRow w.heap.size 3 1 v' (ns.length + 1) ((encL ns).map encI ++ [.int .i64 r])) (hg : wr.grownBy w2 v.ownBlock) (hb : v'.ownBlock = v.ownBlock ∨ v'.ownBlock = some wr.heap.size) : Mk flip ops k0 s0 w (i + 1) v' w2 k s (ns ++ [r]) Cs := by
  obtain ⟨g, c, rfl, hg1, hg2⟩ := own_full h.own (by rw [h.len]; omega)
  have hnf := h.nf g rfl
  refine ⟨h.L.same (fun j hj => ?_), h.T.far hg hg1, h.E, h.m, h.hn, h.gn, h.fam, by simp [h.len], ?_, fun g' hg' hf => ?_⟩
  · exact hg.block j (h.L.ar.lt j hj) (fun e => by injection e with e; subst e; exact hnf hj)
  · rw [List.length_append, List.length_singleton]
    unfold encL at ho ⊢
    simp only [List.map_append, List.map_cons, List.map_nil]
    exact ho
  · rcases hb with e | e
    · rw [e] at hg'
      exact h.nf g' hg' hf
    · rw [e] at hg'
      cases hg'
      have := h.L.ar.lt _ hf
      omega
def MadeOut (flip : Nat) (ops : List Nat) (k0 : Blk) (s0 : St) (w : World) (e : Ending) (w' : World) : Prop :=
  ∃ (k : Blk) (s : St) (r : Nat) (S : Nat → Bool), e = .returned (.int .i64 (r : Nat)) ∧ Live w' k s ∧ Turn k0 k w w' ∧ Ext s0 s ∧ s.m ≤ s0.m + budm 40 ∧ s.hn ≤ s0.hn + bud 40 ∧ s.gn ≤ s0.gn + 40 ∧ nS S 0 ≤ 20 ∧ (∀ x, S x = true → x < 32) ∧ Nod s r S (madeF s0.vs flip ops)
theorem Mk.out (h : Mk flip ops k0 s0 w i v wr k s ns Cs) (hi : i ≤ 40) (he : i = 40 ∨ i = ops.length) {f : Nat} (hf : ns[i + 1]? = some f) : MadeOut flip ops k0 s0 w (.returned (.int .i64 (f : Nat))) wr := by
  obtain ⟨S, h1, h2, h3⟩ := h.fam.last hf
  have ht : ops.take i = ops.take 40 := by
    rcases he with e | e
    · rw [e]
    · rw [e, List.take_length, List.take_of_length_le (by omega)]
  have m1 := budm_mono hi
  have m2 := bud_mono hi
  have e1 := h.m
  have e2 := h.hn
  have e3 := h.gn
  refine ⟨k, s, f, S, rfl, h.L, h.T, h.E, by omega, by omega, by omega, by omega, h2, ?_⟩
  unfold madeF
  rw [← ht, h.flen]
  exact h3
theorem mk_start {w1 : World} {v : Value} (L : Live w k0 s0) (ho : w1.ownsRow w.heap.size 3 1 v 2 [.int .i64 0, .int .i64 1]) (hb : Below w.heap.size w w1) : Mk flip ops k0 s0 w 0 v w1 k0 s0 [0, 1] [((fun _ => false), 0)] := by
  refine ⟨L.below hb, Turn.below hb, Ext.refl _, Nat.le_refl _, Nat.le_refl _, Nat.le_refl _, fam_start L, rfl, ho, fun g hg hf => ?_⟩
  have h1 := L.ar.lt g hf
  have h2 := ho.lt g hg
  omega
end Go.Proofs.Ytgfjdkkfgclhjaa.Bd
/- turned: functions out of bytes; the walk. -/
namespace Go.Proofs.Ytgfjdkkfgclhjaa.Bd
open Go.RowKit Go.Proofs.Ytgfjdkkfgclhjaa Go.Proofs.Ytgfjdkkfgclhjaa.Lx Go.Maps

theorem srcV_at {w : World} {A : Option Addr} {m c : Nat} {l : List Value} (h : Src w A m c 1 l) {i : Nat} {x : Value} (hx : l[i]? = some x) : ∃ ad, A = some ad ∧ w.cell? (ad.add i) = some x := by
  obtain ⟨h1, ⟨_, h2, _⟩ | ⟨ad, h2, h3⟩⟩ := h
  · have := lt_of_some hx
    omega
  · exact ⟨ad, h2, h3 i _ hx⟩
def encB (ops : List Nat) : List Value := ops.map fun (b : Nat) => Value.int .u8 (b : Int)
theorem lit01 (w : World) : (w.alloc (.cells #[.int .i64 0, .int .i64 1] 3)).ownsRow w.heap.size 3 1 (.slice (some ⟨w.heap.size, 0, none⟩) 2 2) 2 [.int .i64 0, .int .i64 1] :=
  ⟨rfl, .inr ⟨w.heap.size, 2, _, rfl, Nat.le_refl _, heap_new _ _, by decide, by unfold maxLen; decide, rfl, rfl⟩⟩
theorem Mk.below {flip : Nat} {ops : List Nat} {k0 k : Blk} {s0 s : St} {w wr w' : World} {i : Nat} {v : Value} {ns : List Nat} {Cs : List Cmp} (h : Mk flip ops k0 s0 w i v wr k s ns Cs) (hb : Below wr.heap.size wr w') : Mk flip ops k0 s0 w i v w' k s ns Cs := by
  obtain ⟨g, c, rfl, hg1, hg2⟩ := h.slice
  exact ⟨h.L.below hb, h.T.trans (Turn.below hb), h.E, h.m, h.hn, h.gn, h.fam, h.len, own_block h.own (hb.block g hg2), h.nf⟩
theorem wrapI {x : Int} (h1 : 0 ≤ x) (h2 : x < 9223372036854775808) : IntKind.i64.wrap x = x := by
  simp [IntKind.wrap, IntKind.bits, IntKind.signed, Int.bmod_def]
  omega
theorem bits32 : ∀ a, a < 32 → ∀ b, b < 2 → bits BinOp.xor IntKind.i64 ((a : Nat) : Int) ((b : Nat) : Int) = ((a ^^^ b : Nat) : Int) := by decide
theorem xor32 {a f : Nat} (ha : a < 32) (hf : f < 2) : a ^^^ f < 32 := Nat.xor_lt_two_pow (n := 5) ha (by omega)
set_option maxHeartbeats 8000000 in
set_option maxRecDepth 100000 in
theorem turned_any (flip : Nat) (k0 : Blk) (s0 : St) (A : Option Addr) (c : Nat) (ops : List Nat) (w0 w : World) (M : Mine w0 w k0 s0) (hS : Src w0 A ops.length c 1 (encB ops)) (hb : ∀ b ∈ ops, b < 256) (hflip : flip < 2) (hvs : 32 ≤ s0.vs) (hm : s0.m + budm 40 ≤ 1000000000) (hg : s0.gn + 40 ≤ 900000000) (hh : s0.hn + bud 40 ≤ s0.ms) :
    Calls Try.prog 17 #[.pointer (some ⟨k0.p, 0, none⟩), .slice A ops.length c, .int .i64 flip] w (MadeOut flip ops k0 s0 w) := by
  have hstart : Hid (Mk flip ops k0 s0 w 0 (.slice (some ⟨w.heap.size, 0, none⟩) 2 2) (w.alloc (.cells #[.int .i64 0, .int .i64 1] 3)) k0 s0 [0, 1] [((fun _ => false), 0)]) := hide (mk_start M.L (lit01 w) (bel_one _ _))
  have HM := hide M
  have HS := hide hS
  have HB := hide hb
  have HH := hide (And.intro hm (And.intro hg hh))
  have HV := hide (And.intro hflip hvs)
  clear M hS hb hflip hvs hm hg hh
  obtain ⟨i1, hi1, iz1, is1, ib1⟩ := info_at infoT
  go_enter Try.func17, Try.ntmps17
  go_wp2_with fail
  go_loopw [7, 8] (fun v j wr => ∃ (i : Nat) (k : Blk) (s : St) (ns : List Nat) (Cs : List Cmp), j = .int .i64 i ∧ i ≤ 40 ∧ i ≤ ops.length ∧ Mk flip ops k0 s0 w i v wr k s ns Cs) (fun _ j _ => 40 - (intOf j).toNat)
  case atStart => exact ⟨0, _, _, _, _, rfl, by omega, Nat.zero_le _, hstart.out⟩
  case round =>
    obtain ⟨i, k, s, ns, Cs, rfl, hi, hi2, MK⟩ := hrel
    have HMK := hide MK
    obtain ⟨g, gc, rfl, hg1, hg2⟩ := MK.slice
    obtain ⟨f, hf⟩ := MK.at (j := i + 1) (by omega)
    have HF := hide hf
    have own := MK.own
    rw [MK.len] at own
    have hlowB : Below w0.heap.size w0 wr := HM.out.b.trans (MK.T.low HM.out.f HM.out.b.size)
    have hget : ∀ j x : Nat, ns[j]? = some x → wr.cell? ⟨g, j, none⟩ = some (.int .i64 x) := by
      intro j x hx
      obtain ⟨ad, had, cf⟩ := src_at (src_of_own own) (i := j) (x := (x : Int)) (by unfold encL; rw [List.getElem?_map, hx]; rfl)
      cases had
      rw [show (⟨g, 0, none⟩ : Addr).add j = ⟨g, j, none⟩ by simp [Addr.add, eq_comm]] at cf
      exact cf
    have cf := hget (i + 1) f hf
    have HGET := hide hget
    clear own hget hf
    rw [show i + 2 = i + 1 + 1 from rfl] at *
    have hM41 : i + 1 ≤ 41 := by omega
    generalize hN : i + 1 = N at *
    have HN := hide hN
    clear hN
    rcases Nat.lt_or_ge i ops.length with hlt | hge
    · have d1 : decide (i < ops.length) = true := by simpa using hlt
      have d1' : decide ((i : Int) < ops.length) = true := by simp; omega
      rcases Nat.lt_or_ge i 40 with hlt4 | hge4
      · have d2 : decide (i < 40) = true := by simpa using hlt4
        have d2' : decide ((i : Int) < 40) = true := by simp; omega
        obtain ⟨op, hop⟩ : ∃ op, ops[i]? = some op := ⟨_, List.getElem?_eq_getElem hlt⟩
        have hop256 := HB.out op (List.mem_of_getElem? hop)
        obtain ⟨ao, rfl, co⟩ := srcV_at (Src.below HS.out hlowB) (i := i) (x := .int .u8 op) (by unfold encB; rw [List.getElem?_map, hop]; rfl)
        have HOP := hide hop
        obtain ⟨g', hg'⟩ := MK.at (j := op / 8 % (N + 1)) (by have := Nat.mod_lt (op / 8) (show 0 < N + 1 by omega); have := HN.out; omega)
        have cg := HGET.out _ _ hg'
        have hn2 : nS (oneS 0) 0 ≤ 1 := nS_one 0
        have hrm := MK.room hlt4 HH.out.1 HH.out.2.1 HH.out.2.2
        have hfl := MK.flen
        obtain ⟨S, hS1, nf, ng, hfam⟩ := MK.fam.bin HF.out hg'
        have HP := hide MK.T.p
        have hN1 : i + 2 - 1 = N := by have := HN.out; omega
        have hN2 : i + 2 = N + 1 := by have := HN.out; omega
        clear MK
        have lt2 : (op : Int) / 8 % ((N : Int) + 1) < (N : Int) + 1 := Int.emod_lt_of_pos _ (by omega)
        have ge2 : 0 ≤ (op : Int) / 8 % ((N : Int) + 1) := Int.emod_nonneg _ (by omega)
        rcases (by omega : op % 8 = 0 ∨ op % 8 = 1 ∨ op % 8 = 2 ∨ op % 8 = 3 ∨ 4 ≤ op % 8) with h8 | h8 | h8 | h8 | h8
        focus (
          have h8' : (op : Int) % 8 = 0 := by omega
          have HC := hide (Not_live ((i + 2) / 2) S k s f _ wr HMK.out.L nf (by omega) hrm)
          rw [HP.out] at HC
          go_wp2_with fail
          refine HC.out.mono ?_
          intro e w' hh
          obtain ⟨k', s', r, Cs', rfl, hkp, MX⟩ := HMK.out.step HOP.out (by unfold stepF; rw [if_pos h8, hfl, hN1]) hh (fun s' r E h => hfam s' r _ E h)
          have HMX := hide MX
          clear hh MX)
        rotate_left
        focus (
          have h8' : (op : Int) % 8 = 1 := by omega
          have HC := hide (And_live ((i + 2) / 2) S k s f g' _ _ wr HMK.out.L nf ng (by omega) hrm)
          rw [HP.out] at HC
          go_wp2_with fail
          refine HC.out.mono ?_
          intro e w' hh
          obtain ⟨k', s', r, Cs', rfl, hkp, MX⟩ := HMK.out.step HOP.out (by unfold stepF; rw [if_neg (by omega)]; rw [if_pos h8, hfl, hN1, hN2]) hh (fun s' r E h => hfam s' r _ E h)
          have HMX := hide MX
          clear hh MX)
        rotate_left
        focus (
          have h8' : (op : Int) % 8 = 2 := by omega
          have HC := hide (Or_live ((i + 2) / 2) S k s f g' _ _ wr HMK.out.L nf ng (by omega) hrm)
          rw [HP.out] at HC
          go_wp2_with fail
          refine HC.out.mono ?_
          intro e w' hh
          obtain ⟨k', s', r, Cs', rfl, hkp, MX⟩ := HMK.out.step HOP.out (by unfold stepF; rw [if_neg (by omega)]; rw [if_neg (by omega)]; rw [if_pos h8, hfl, hN1, hN2]) hh (fun s' r E h => hfam s' r _ E h)
          have HMX := hide MX
          clear hh MX)
        rotate_left
        focus (
          have h8' : (op : Int) % 8 = 3 := by omega
          have HC := hide (Xor_live ((i + 2) / 2) S k s f g' _ _ wr HMK.out.L nf ng (by omega) hrm)
          rw [HP.out] at HC
          go_wp2_with fail
          refine HC.out.mono ?_
          intro e w' hh
          obtain ⟨k', s', r, Cs', rfl, hkp, MX⟩ := HMK.out.step HOP.out (by unfold stepF; rw [if_neg (by omega)]; rw [if_neg (by omega)]; rw [if_neg (by omega)]; rw [if_pos h8, hfl, hN1, hN2]) hh (fun s' r E h => hfam s' r _ E h)
          have HMX := hide MX
          clear hh MX)
        rotate_left
        focus (
          have m0 : ((op : Int) % 8 == 0) = false := by simp; omega
          have m1 : ((op : Int) % 8 == 1) = false := by simp; omega
          have m2 : ((op : Int) % 8 == 2) = false := by simp; omega
          have m3 : ((op : Int) % 8 == 3) = false := by simp; omega
          have HMD := hide (HMK.out.below (Below.refl _ wr).drew)
          have hvs : s.vs = s0.vs := HMK.out.E.vs
          have hix : op / 8 % s0.vs < 32 := by have := Nat.mod_le (op / 8) s0.vs; omega
          have hi32 := xor32 hix HV.out.1
          have HVS := hide (Vars_any k s wr.drew HMD.out.L.ar)
          have HC := hide (Var_live ((i + 2) / 2) k s (op / 8 % s0.vs ^^^ flip) wr.drew HMD.out.L (by rw [hvs]; have := HV.out.2; omega) (by omega) hrm)
          rw [HP.out] at HC HVS
          rw [hvs] at HVS
          have HKD := hide (fun (w' : World) (hb : Below w0.heap.size w0 w') => show w'.cell? (ao.add i) = some (.int .u8 op) from by
            obtain ⟨ad, had, cd⟩ := srcV_at (Src.below HS.out hb) (i := i) (x := .int .u8 op) (by unfold encB; rw [List.getElem?_map, HOP.out]; rfl)
            cases had
            exact cd)
          have kc : wr.drew.cell? (ao.add i) = some (.int .u8 op) := co
          have hmax : max (1 : Int) (s0.vs : Int) = s0.vs := by have := HV.out.2; omega
          have hvz : ¬ ((s0.vs : Int) = 0) := by have := HV.out.2; omega
          have hvz2 : ((s0.vs : Int) == 0) = false := by simp; have := HV.out.2; omega
          have hxor : bits BinOp.xor IntKind.i64 ((op : Int) / 8 % (s0.vs : Int)) (flip : Int) = ((op / 8 % s0.vs ^^^ flip : Nat) : Int) := by
            rw [show (op : Int) / 8 % (s0.vs : Int) = ((op / 8 % s0.vs : Nat) : Int) by push_cast; rfl]
            exact bits32 _ hix _ HV.out.1
          have hxor2 : bits BinOp.xor IntKind.i64 ((IntKind.i64.wrap ((op : Int) / 8)).tmod (s0.vs : Int)) (flip : Int) = ((op / 8 % s0.vs ^^^ flip : Nat) : Int) := by
            rw [wrapI (by omega) (by omega), Int.tmod_eq_emod_of_nonneg (by omega)]
            exact hxor
          have hvp : (0 : Int) < (s0.vs : Int) := by have := HV.out.2; omega
          have hvn : (s0.vs : Int) ≠ 0 := hvz
          have hvk : s0.vs ≠ 0 := by have := HV.out.2; omega
          go_wp2_with fail
          go_region_held3 (fun w' => w'.cell? (ao.add i) = some (.int .u8 op))
            (first | exact kc | exact kd)
            (first
              | (go_at_call 20; (with_reducible refine HVS.out.mono ?_); rintro e w2 ⟨he, hw2⟩; subst he; subst hw2)
              | (go_at_call 18; (first | rw [hxor2] | rw [hxor] | skip); (with_reducible refine HC.out.mono ?_); intro e w' hh; obtain ⟨k', s', r, Cs', he, hkp, MX⟩ := HMD.out.step HOP.out (by unfold stepF; rw [if_neg (by omega), if_neg (by omega), if_neg (by omega), if_neg (by omega)]) hh (fun s' r E h => HMK.out.fam.var hi32 E h); subst he; have HMX := hide MX; have kd := HKD.out w' (HM.out.b.trans (MX.T.low HM.out.f HM.out.b.size)); clear hh MX))
)
        rotate_left
        all_goals (
          go_wp2_with (at_builtin; go_must (refine wpList_append_own_at _ rfl (.tmp 101) (.tmp 103) 37 rfl w.heap.size 3 i1 _ 1 8 Try.underlying37 hi1 iz1 is1 ib1 rfl (by decide) _ (N + 1) ((encL ns).map encI) rfl (by have := (HMX.out.lay (Obj.cells #[.int .i64 r] 3)).own; rw [HMX.out.len] at this; have hx := HN.out; rw [show i + 2 = N + 1 by omega] at this; exact this) ⟨w'.heap.size, 0, none⟩ 1 1 [.int .i64 r] rfl rfl (cell_one_new _ _ _) ?ones ?c63 ?cby ?cbase ?_))
          case ones => simp [Value.oneCell']
          case c63 => unfold maxLen; omega
          case cby => omega
          case cbase => have := HMX.out.T.size; simp; omega
          intro v' w2 hown' hgrow _ hblk
          have hx := HN.out
          have HMN := hide ((HMX.out.lay (Obj.cells #[.int .i64 r] 3)).done (by rw [HMX.out.len, show i + 2 + 1 = N + 1 + 1 by omega]; exact hown') hgrow (by rw [World.size_alloc]; exact hblk))
          obtain ⟨A2, c2, rfl⟩ := own_slice hown'
          clear hown' hgrow hblk hx
          go_wp2_with fail
          go_roundw
          case rel => exact ⟨i + 1, k', s', _, Cs', by go_num, by omega, by omega, HMN.out⟩
          case measure => simp [intOf]; omega)
      · have e : i = 40 := by omega
        have d2 : decide (i < 40) = false := by simp; omega
        have d2' : decide ((i : Int) < 40) = false := by simp; omega
        have HO := hide (HMK.out.out hi (.inl e) (by rw [show i + 1 = N from HN.out]; exact HF.out))
        clear MK
        go_wp2_with fail
        go_ret
        exact HO.out
    · have e : i = ops.length := by omega
      have d1 : decide (i < ops.length) = false := by simp; omega
      have d1' : decide ((i : Int) < ops.length) = false := by simp; omega
      have HO := hide (HMK.out.out hi (.inr e) (by rw [show i + 1 = N from HN.out]; exact HF.out))
      clear MK e
      go_wp2_with fail
      go_ret
      exact HO.out
set_option maxRecDepth 100000 in
theorem made_any (k0 : Blk) (s0 : St) (A : Option Addr) (c : Nat) (ops : List Nat) (w0 w : World) (M : Mine w0 w k0 s0) (hS : Src w0 A ops.length c 1 (encB ops)) (hb : ∀ b ∈ ops, b < 256) (hvs : 32 ≤ s0.vs) (hm : s0.m + budm 40 ≤ 1000000000) (hg : s0.gn + 40 ≤ 900000000) (hh : s0.hn + bud 40 ≤ s0.ms) :
    Calls Try.prog 9 #[.pointer (some ⟨k0.p, 0, none⟩), .slice A ops.length c] w (MadeOut 0 ops k0 s0 w) := by
  have HC := hide (turned_any 0 k0 s0 A c ops w0 w M hS hb (by omega) hvs hm hg hh)
  clear M hS hb hvs hm hg hh
  go_enter Try.func9, Try.ntmps9
  go_wp2_with fail
  refine HC.out.mono ?_
  intro e w1 hh
  have HX := hide hh
  obtain ⟨k, s, r, S, he, _⟩ := hh
  subst he
  go_wp2_with fail
  go_ret
  exact HX.out
end Go.Proofs.Ytgfjdkkfgclhjaa.Bd
/- Halves, some and all, in plain words. -/
namespace Go.Proofs.Ytgfjdkkfgclhjaa.Bd
open Go.RowKit Go.Proofs.Ytgfjdkkfgclhjaa Go.Proofs.Ytgfjdkkfgclhjaa.Lx Go.Maps

theorem memB_nil : memB [] = fun _ => false := by funext y; unfold memB; simp
theorem memB_cons (x : Nat) (l : List Nat) : memB (x :: l) = fun y => decide (y = x) || memB l y := by
  funext y
  unfold memB
  rw [← Bool.decide_or]
  congr 1
  simp
theorem over_nil (J : Bool → Bool → Bool) (F : Env → Bool) : overT J (memB []) F = F := by rw [memB_nil]; exact overT_none F
theorem over_one {J : Bool → Bool → Bool} (hJ : Joins J) {x : Nat} (hx : x < 256) (F : Env → Bool) : overT J (memB [x]) F = quant J x F := by
  rw [memB_cons, overT_put hJ hx, over_nil]
theorem over_two {J : Bool → Bool → Bool} (hJ : Joins J) {x y : Nat} (hx : x < 256) (hy : y < 256) (F : Env → Bool) : overT J (memB [x, y]) F = quant J x (quant J y F) := by
  rw [memB_cons, overT_put hJ hx, over_one hJ hy]
theorem halves (F : Env → Bool) (i : Nat) : (fun ρ => if ρ i then resT i true F ρ else resT i false F ρ) = F := by
  funext ρ
  exact (shannon F i ρ).symm
theorem some_or (F : Env → Bool) (i : Nat) : (fun ρ => resT i false F ρ || resT i true F ρ) = quant (fun a b => a || b) i F := rfl
theorem all_and (F : Env → Bool) (i : Nat) : (fun ρ => resT i false F ρ && resT i true F ρ) = quant (fun a b => a && b) i F := rfl
theorem not_all (F : Env → Bool) (i : Nat) : quant (fun a b => a || b) i (fun ρ => !F ρ) = fun ρ => !quant (fun a b => a && b) i F ρ := by
  funext ρ
  unfold quant
  simp
theorem quant_hangs {J : Bool → Bool → Bool} {F : Env → Bool} {i : Nat} : ¬ Hangs (quant J i F) i := by
  rintro ⟨ρ, h⟩
  apply h
  unfold quant
  simp only [upd_twice]

theorem supp_or {s : St} {o i : Nat} {S : Nat → Bool} {F : Env → Bool} (hw : WF s.nd) (N : Nod s o S (fun ρ => resT i false F ρ || resT i true F ρ)) : ∀ x ∈ supL s.nd o, x ≠ (i : Int) := by
  rw [some_or F i] at N
  obtain ⟨g, t, d⟩ := N
  intro x hx e
  obtain ⟨v, e2, hh⟩ := (supL_mem hw d x).1 hx
  have e3 : v = i := by omega
  rw [e3] at hh
  exact quant_hangs hh

/-- an arena's numbers, bounded -/
structure Std (s : St) (V a b c : Nat) : Prop where
  vs : s.vs = V
  ms : s.ms = 4194304
  m : s.m ≤ a
  hn : s.hn ≤ b
  gn : s.gn ≤ c
theorem Std.room {s : St} {V a b c n R : Nat} (h : Std s V a b c) (h1 : a + R ≤ 1000000000) (h2 : c + 1 ≤ 900000000) (h3 : b + held n ≤ 4194304) : Room s n R := by
  refine ⟨Nat.le_trans (Nat.add_le_add_right h.m R) h1, Nat.le_trans (Nat.add_le_add_right h.gn 1) h2, ?_⟩
  rw [h.ms]
  exact Nat.le_trans (Nat.add_le_add_right h.hn _) h3
theorem Std.wk {s : St} {V a b c a' b' c' : Nat} (h : Std s V a b c) (h1 : a ≤ a') (h2 : b ≤ b') (h3 : c ≤ c') : Std s V a' b' c' := ⟨h.vs, h.ms, Nat.le_trans h.m h1, Nat.le_trans h.hn h2, Nat.le_trans h.gn h3⟩
theorem std_new (V : Nat) : Std (St.new V 4194304) V 0 0 2 := ⟨rfl, rfl, Nat.le_refl _, Nat.le_refl _, Nat.le_refl _⟩
theorem adv {k : Blk} {s : St} {w w' : World} {R B V a b c : Nat} {S : Nat → Bool} {G : Env → Bool} {e : Ending} (h : SemOut k s w R B S G e w') (Q : Std s V a b c) : ∃ (k' : Blk) (s' : St) (r : Nat), e = .returned (.tuple #[.int .i64 (r : Nat), .int .i64 0]) ∧ Live w' k' s' ∧ Turn k k' w w' ∧ Ext s s' ∧ Std s' V (a + R) (b + B) (c + 1) ∧ Nod s' r S G := by
  obtain ⟨k', s', r, he, L, T, E, m, hn, gn, N⟩ := h
  have q1 := Q.m; have q2 := Q.hn; have q3 := Q.gn
  exact ⟨k', s', r, he, L, T, E, ⟨E.vs.trans Q.vs, E.ms.trans Q.ms, by omega, by omega, by omega⟩, N⟩
theorem adv_made {flip : Nat} {ops : List Nat} {k : Blk} {s : St} {w w' : World} {V a b c : Nat} {e : Ending} (h : MadeOut flip ops k s w e w') (Q : Std s V a b c) : ∃ (k' : Blk) (s' : St) (r : Nat) (S : Nat → Bool), e = .returned (.int .i64 (r : Nat)) ∧ Live w' k' s' ∧ Turn k k' w w' ∧ Ext s s' ∧ Std s' V (a + 16777200) (b + 534490) (c + 40) ∧ nS S 0 ≤ 20 ∧ (∀ x, S x = true → x < 32) ∧ Nod s' r S (madeF V flip ops) := by
  obtain ⟨k', s', r, S, he, L, T, E, m, hn, gn, hS, hx, N⟩ := h
  have q1 := Q.m; have q2 := Q.hn; have q3 := Q.gn
  rw [budm_40] at m
  rw [bud_40] at hn
  rw [Q.vs] at N
  exact ⟨k', s', r, S, he, L, T, E, ⟨E.vs.trans Q.vs, E.ms.trans Q.ms, by omega, by omega, by omega⟩, hS, hx, N⟩
end Go.Proofs.Ytgfjdkkfgclhjaa.Bd
/- Small arenas: just which nodes are held. -/
namespace Go.Proofs.Ytgfjdkkfgclhjaa.Bd
open Go.RowKit Go.Proofs.Ytgfjdkkfgclhjaa Go.Proofs.Ytgfjdkkfgclhjaa.Lx Go.Maps

theorem vis_stop {nd : List Nd} {he : Int → Bool} {n : Nat} {fr : List Nat} {f : Nat} (h : f < 2 ∨ f ∈ fr ∨ he f = true) : vis nd he n fr f = fr := by
  cases n with
  | zero => rfl
  | succ n => unfold vis; rw [if_pos h]
theorem fresh_held {s : St} {f : Nat} (h : s.he f = true) : fresh s f = [] := vis_stop (.inr (.inr h))
theorem fresh_one {s : St} {f v lo hi : Nat} (h2 : 2 ≤ f) (hh : s.he f = false) (hr : s.nd[f]? = some (v, lo, hi)) (hl : lo < 2 ∨ s.he lo = true) (hi' : hi < 2 ∨ s.he hi = true) : fresh s f = [f] := by
  unfold fresh
  have hc : ¬ (f < 2 ∨ f ∈ ([] : List Nat) ∨ s.he f = true) := by
    rintro (h | h | h)
    · omega
    · cases h
    · rw [hh] at h; cases h
  conv => lhs; unfold vis
  rw [if_neg hc, hr]
  simp only [List.nil_append]
  rw [vis_stop (hl.imp id .inr), vis_stop (hi'.imp id .inr)]
theorem fresh_some {s : St} (hw : WF s.nd) {f : Nat} (hf : f < s.nd.length) (h2 : 2 ≤ f) (hh : s.he f = false) : 1 ≤ (fresh s f).length := by
  rcases (vis_ok hw (he := s.he) (f + 1) [] f (by omega) hf).me with h | h | h
  · omega
  · exact List.length_pos_of_mem h
  · rw [hh] at h; cases h
def FullOut (k : Blk) (s : St) (w : World) (R : Nat) (e : Ending) (w' : World) : Prop :=
  ∃ (k' : Blk) (s' : St), e = .returned (.tuple #[.int .i64 0, .int .i64 3]) ∧ Live w' k' s' ∧ Turn k k' w w' ∧ Ext s s' ∧ s'.m + 2 ≤ s.m + R ∧ s'.hn = s.hn ∧ s'.gn = s.gn ∧ s'.he = s.he
def OneOut (k : Blk) (s : St) (w : World) (R : Nat) (S : Nat → Bool) (G : Env → Bool) (e : Ending) (w' : World) : Prop :=
  ∃ (k' : Blk) (s' : St) (r : Nat), e = .returned (.tuple #[.int .i64 (r : Nat), .int .i64 0]) ∧ Live w' k' s' ∧ Turn k k' w w' ∧ Ext s s' ∧ s'.m + 2 ≤ s.m + R ∧ s'.hn = s.hn + 1 ∧ s'.gn = s.gn + 1 ∧ Nod s' r S G ∧ ∀ x : Nat, s'.he x = true ↔ x = r ∨ s.he x = true
def SameOut (k : Blk) (s : St) (w : World) (R : Nat) (S : Nat → Bool) (G : Env → Bool) (e : Ending) (w' : World) : Prop :=
  ∃ (k' : Blk) (s' : St) (r : Nat), e = .returned (.tuple #[.int .i64 (r : Nat), .int .i64 0]) ∧ Live w' k' s' ∧ Turn k k' w w' ∧ Ext s s' ∧ s'.m + 2 ≤ s.m + R ∧ s'.hn = s.hn ∧ s'.gn = s.gn + 1 ∧ Nod s' r S G ∧ ∀ x : Nat, s'.he x = true ↔ s.he x = true
theorem live_up {k : Blk} {s s1 : St} {w w' : World} (L : Live w k s) (U : Up s s1) {k' : Blk} (hA : Ar w' k' s1) : Live w' k' s1 ∧ Ext s s1 := by
  have had := L.ad
  refine ⟨⟨hA, ⟨by rw [U.ms]; exact had.ms, by rw [U.hn]; exact had.hn, by rw [U.gn]; exact had.gn, by rw [U.vs]; exact had.vs⟩, by rw [U.gi]; exact L.g0, by rw [U.gi]; exact L.g1⟩, ⟨U.vs, U.ms, fun x hx => by rw [U.gi]; exact hx, U.nd⟩⟩
theorem live_give {k : Blk} {s s1 : St} {w w' : World} (L : Live w k s) (U : Up s s1) {k' : Blk} {r : Nat} (hA : Ar w' k' (s1.give r)) (hgn : s.gn + 1 ≤ 900000000) (hB : s.hn + (fresh s1 r).length ≤ s.ms) : Live w' k' (s1.give r) ∧ Ext s (s1.give r) ∧ (s1.give r).gi r = true := by
  have had := L.ad
  refine ⟨⟨hA, ⟨?_, ?_, ?_, ?_⟩, ?_, ?_⟩, ⟨U.vs, U.ms, fun x hx => ?_, U.nd⟩, ?_⟩
  · show s1.ms ≤ _; rw [U.ms]; exact had.ms
  · show s1.hn + (fresh s1 r).length ≤ _; rw [U.hn]; have := had.ms; omega
  · show s1.gn + 1 ≤ _; rw [U.gn]; omega
  · show s1.vs ≤ _; rw [U.vs]; exact had.vs
  · show (decide ((0 : Int) = r) || s1.gi 0) = true; rw [U.gi, L.g0]; simp
  · show (decide ((1 : Int) = r) || s1.gi 1) = true; rw [U.gi, L.g1]; simp
  · show (decide (x = r) || s1.gi x) = true; rw [U.gi, hx]; simp
  · show (decide ((r : Int) = r) || s1.gi r) = true; simp
/-- a node with nothing fresh beneath it -/
def OneNew (s : St) (S : Nat → Bool) (G : Env → Bool) : Prop := ∀ (nd' : List Nd) (r t : Nat), (∃ ex, nd' = s.nd ++ ex) → WF nd' → Den S nd' r t G → 2 ≤ r ∧ s.he r = false ∧ ∃ v lo hi, nd'[r]? = some (v, lo, hi) ∧ (lo < 2 ∨ s.he lo = true) ∧ (hi < 2 ∨ s.he hi = true)
theorem one_of {k : Blk} {s : St} {w w' : World} {R : Nat} {S : Nat → Bool} {G : Env → Bool} {e : Ending} (h : ApiOut k s w R (OkSem S G) e w') (L : Live w k s) (hgn : s.gn + 1 ≤ 900000000) (ho : OneNew s S G) (hB : s.hn + 1 ≤ s.ms) : OneOut k s w R S G e w' := by
  obtain ⟨k', s1, r, U, hm, ⟨t, d⟩, T, hw, hr, h⟩ := h
  obtain ⟨h2, hh, v, lo, hi, hrow, hl, hi'⟩ := ho s1.nd r t U.nd hw d
  have hf : fresh s1 r = [r] := fresh_one h2 (by rw [U.he]; exact hh) hrow (by rw [U.he]; exact hl) (by rw [U.he]; exact hi')
  rw [hf] at h
  simp only [List.length_singleton] at h
  rcases h with ⟨h1, _⟩ | ⟨h1, he, hA⟩
  · omega
  · obtain ⟨a, b, c⟩ := live_give L U hA hgn (by rw [hf]; exact hB)
    refine ⟨k', _, r, he, a, T, b, hm, ?_, ?_, ⟨c, t, d⟩, fun x => ?_⟩
    · show s1.hn + (fresh s1 r).length = _; rw [hf, U.hn]; rfl
    · show s1.gn + 1 = _; rw [U.gn]
    · show (decide (0 ≤ (x : Int) ∧ (x : Int).toNat ∈ fresh s1 r) || s1.he x) = true ↔ _
      rw [hf, U.he]
      simp
theorem full_of {k : Blk} {s : St} {w w' : World} {R : Nat} {S : Nat → Bool} {G : Env → Bool} {e : Ending} (h : ApiOut k s w R (OkSem S G) e w') (L : Live w k s) (ho : ∀ (nd' : List Nd) (r t : Nat), (∃ ex, nd' = s.nd ++ ex) → WF nd' → Den S nd' r t G → 2 ≤ r ∧ s.he r = false) (hB : s.ms ≤ s.hn) : FullOut k s w R e w' := by
  obtain ⟨k', s1, r, U, hm, ⟨t, d⟩, T, hw, hr, h⟩ := h
  obtain ⟨h2, hh⟩ := ho s1.nd r t U.nd hw d
  have hf := fresh_some hw hr h2 (by rw [U.he]; exact hh)
  rcases h with ⟨h1, he, hA⟩ | ⟨h1, _⟩
  · obtain ⟨a, b⟩ := live_up L U hA
    exact ⟨k', s1, he, a, T, b, hm, U.hn, U.gn, U.he⟩
  · omega
theorem same_of {k : Blk} {s : St} {w w' : World} {R : Nat} {S : Nat → Bool} {G : Env → Bool} {e : Ending} (h : ApiOut k s w R (OkSem S G) e w') (L : Live w k s) (hgn : s.gn + 1 ≤ 900000000) (ho : ∀ (nd' : List Nd) (r t : Nat), (∃ ex, nd' = s.nd ++ ex) → WF nd' → Den S nd' r t G → s.he r = true) (hB : s.hn ≤ s.ms) : SameOut k s w R S G e w' := by
  obtain ⟨k', s1, r, U, hm, ⟨t, d⟩, T, hw, hr, h⟩ := h
  have hh := ho s1.nd r t U.nd hw d
  have hf : fresh s1 r = [] := fresh_held (by rw [U.he]; exact hh)
  rw [hf] at h
  rcases h with ⟨h1, _⟩ | ⟨h1, he, hA⟩
  · simp at h1; omega
  · obtain ⟨a, b, c⟩ := live_give L U hA hgn (by rw [hf]; simpa using hB)
    refine ⟨k', _, r, he, a, T, b, hm, ?_, ?_, ⟨c, t, d⟩, fun x => ?_⟩
    · show s1.hn + (fresh s1 r).length = _; rw [hf, U.hn]; rfl
    · show s1.gn + 1 = _; rw [U.gn]
    · show (decide (0 ≤ (x : Int) ∧ (x : Int).toNat ∈ fresh s1 r) || s1.he x) = true ↔ _
      rw [hf, U.he]
      simp
/-- the row of a function whose first variable is known -/
theorem row_of {S : Nat → Bool} {nd : List Nd} (hw : WF nd) {r t v : Nat} {F : Env → Bool} (d : Den S nd r t F) (h : Hangs F v) (hmin : ∀ x, x < v → ¬ Hangs F x) : 2 ≤ r ∧ ∃ lo hi tl th, nd[r]? = some (v, lo, hi) ∧ Den S nd lo tl (fun ρ => F (upd ρ v false)) ∧ Den S nd hi th (fun ρ => F (upd ρ v true)) := by
  have h2 : 2 ≤ r := by
    rcases Nat.lt_or_ge r 2 with h' | h'
    · obtain ⟨_, hF⟩ := d.ends h'
      obtain ⟨ρ, hρ⟩ := h
      rw [hF, hF] at hρ
      exact absurd rfl hρ
    · exact h'
  refine ⟨h2, ?_⟩
  have ht := d.hangs_top hw.once h2
  have hle := (d.hangs_in h).1
  have e : t = v := by
    rcases Nat.lt_or_ge t v with h' | h'
    · exact absurd ht (hmin t h')
    · omega
  subst e
  obtain ⟨lo, hi, tl, th, Fl, Fh, hr, r1, r2, r3, r4, r5, r6, r7, dl, dh, rfl⟩ := d.row h2
  refine ⟨lo, hi, tl, th, hr, ?_, ?_⟩
  · have : (fun ρ => (fun ρ : Env => if ρ t then Fh ρ else Fl ρ) (upd ρ t false)) = Fl := by
      funext ρ
      simp only [upd_same, Bool.false_eq_true, if_false]
      exact dl.free r4 ρ false
    rw [this]; exact dl
  · have : (fun ρ => (fun ρ : Env => if ρ t then Fh ρ else Fl ρ) (upd ρ t true)) = Fh := by
      funext ρ
      simp only [upd_same, if_true]
      exact dh.free r5 ρ true
    rw [this]; exact dh
theorem var_hangs (i : Nat) : Hangs (fun ρ => ρ i) i := ⟨fun _ => false, by simp [upd]⟩
theorem var_only {i x : Nat} (h : Hangs (fun ρ : Env => ρ i) x) : x = i := by
  obtain ⟨ρ, hρ⟩ := h
  by_cases e : x = i
  · exact e
  · simp only [upd_other _ _ (Ne.symm e)] at hρ
    exact absurd rfl hρ
/-- a variable that is not held yet -/
theorem var_new {s : St} {i : Nat} (hn : ∀ x : Nat, s.he x = true → ∃ S t G, Den S s.nd x t G ∧ G ≠ fun ρ => ρ i) : OneNew s (oneS i) (fun ρ => ρ i) := by
  intro nd' r t hex hw d
  obtain ⟨h2, lo, hi, tl, th, hr, dl, dh⟩ := row_of hw d (var_hangs i) (fun x hx h => by have := var_only h; omega)
  have e0 : (fun ρ : Env => (upd ρ i false) i) = fun _ => false := by funext ρ; simp [upd]
  have e1 : (fun ρ : Env => (upd ρ i true) i) = fun _ => true := by funext ρ; simp [upd]
  rw [e0] at dl
  rw [e1] at dh
  have hl := dl.eq hw.once (Den.zero (S := oneS i))
  have hh := dh.eq hw.once (Den.one (S := oneS i))
  refine ⟨h2, ?_, i, lo, hi, hr, .inl (by omega), .inl (by omega)⟩
  cases hc : s.he r with
  | false => rfl
  | true =>
    obtain ⟨S, t', G, d', hG⟩ := hn r hc
    obtain ⟨ex, rfl⟩ := hex
    exact absurd ((d'.append (nx := ex)).det2 d).2 hG
end Go.Proofs.Ytgfjdkkfgclhjaa.Bd
/- works: what each statement asks first. -/
namespace Go.Proofs.Ytgfjdkkfgclhjaa.Bd
open Go.RowKit Go.Proofs.Ytgfjdkkfgclhjaa Go.Proofs.Ytgfjdkkfgclhjaa.Lx Go.Maps

def twoS : Nat → Bool := fun x => decide (x < 2)
theorem nS_two : nS twoS 0 = 2 := by decide
theorem two0 (x : Nat) (h : oneS 0 x = true) : twoS x = true := by unfold oneS at h; unfold twoS; simp at h ⊢; omega
theorem two1 (x : Nat) (h : oneS 1 x = true) : twoS x = true := by unfold oneS at h; unfold twoS; simp at h ⊢; omega
def andG : Env → Bool := fun ρ => ρ 0 && ρ 1
theorem ne_at {F G : Env → Bool} (ρ : Env) (h : F ρ ≠ G ρ) : F ≠ G := fun e => h (by rw [e])
theorem and_new {s : St} {x y : Nat} (hx : Nod s x (oneS 0) (fun ρ => ρ 0)) (hy : Nod s y (oneS 1) (fun ρ => ρ 1)) (hhe : ∀ z : Nat, s.he z = true ↔ z = y ∨ z = x) : OneNew s twoS andG := by
  intro nd' r t hex hw d
  obtain ⟨ex, rfl⟩ := hex
  obtain ⟨_, tx, dx⟩ := hx
  obtain ⟨_, ty, dy⟩ := hy
  have hh : Hangs andG 0 := ⟨fun _ => true, by decide⟩
  obtain ⟨h2, lo, hi, tl, th, hr, dl, dh⟩ := row_of hw d hh (fun x hx => by omega)
  have e0 : (fun ρ : Env => andG (upd ρ 0 false)) = fun _ => false := by funext ρ; simp [andG, upd]
  have e1 : (fun ρ : Env => andG (upd ρ 0 true)) = fun ρ => ρ 1 := by funext ρ; simp [andG, upd]
  rw [e0] at dl
  rw [e1] at dh
  have hl := dl.eq hw.once (Den.zero (S := twoS))
  have hhi := dh.eq hw.once (dy.append (nx := ex))
  refine ⟨h2, ?_, 0, lo, hi, hr, .inl (by omega), .inr (by rw [hhi]; exact (hhe y).2 (.inl rfl))⟩
  cases hc : s.he r with
  | false => rfl
  | true =>
    rcases (hhe r).1 hc with e | e
    · rw [e] at d
      exact absurd (d.det2 (dy.append (nx := ex))).2 (ne_at (fun i => decide (i = 1)) (by decide))
    · rw [e] at d
      exact absurd (d.det2 (dx.append (nx := ex))).2 (ne_at (fun i => decide (i = 0)) (by decide))
set_option maxHeartbeats 4000000 in
set_option maxRecDepth 100000 in
theorem works_any (w : World) : Calls Try.prog 8 #[] w fun e w' => e = .returned (.bool true) ∧ Below w.heap.size w w' := by
  go_enter Try.func8, Try.ntmps8
  go_wp2_with fail
  refine (new_any 2 10 w (by omega) (by omega)).mono ?_
  rintro e w1 ⟨k, rfl, ho⟩
  have M1 := hide (mine_new ho (by omega) (by omega))
  have HV0 : Hid (Calls Try.prog 18 #[.pointer (some ⟨k.p, 0, none⟩), .int .i64 0] w1 (ApiOut k (St.new 2 10) w1 3 (OkSem (oneS 0) (fun ρ => ρ 0)))) := hide (Var_sem k (St.new 2 10) 0 w1 M1.out.L (by show 0 < 2; omega) (by show 0 + 3 ≤ 1000000000; omega))
  clear ho
  go_wp2_with fail
  refine HV0.out.mono ?_
  intro e w2 hh
  obtain ⟨k2, s2, x, rfl, L2, T2, E2, m2, hn2, gn2, Nx, he2⟩ := one_of hh M1.out.L (by show 2 + 1 ≤ 900000000; omega) (var_new (fun z hz => by cases hz)) (by show 0 + 1 ≤ 10; omega)
  have M2 := hide (M1.out.turn L2 T2)
  have hp2 := hide T2.p
  have HN2 := hide Nx
  have HE2 := hide he2
  have hms2 : s2.ms = 10 := E2.ms
  have hvs2 : s2.vs = 2 := E2.vs
  have hm2 : s2.m ≤ 1 := by have : s2.m + 2 ≤ 0 + 3 := m2; omega
  have hh2 : s2.hn = 1 := hn2
  have hg2 : s2.gn = 3 := gn2
  have HF2 := hide (And.intro hms2 (And.intro hvs2 (And.intro hm2 (And.intro hh2 hg2))))
  have HV1 : Hid (Calls Try.prog 18 #[.pointer (some ⟨k2.p, 0, none⟩), .int .i64 1] w2 (ApiOut k2 s2 w2 3 (OkSem (oneS 1) (fun ρ => ρ 1)))) := hide (Var_sem k2 s2 1 w2 L2 (by omega) (by omega))
  rw [T2.p] at HV1
  clear hh L2 T2 E2 m2 hn2 gn2 Nx he2 hms2 hvs2 hm2 hh2 hg2 HV0
  go_wp2_with fail
  refine HV1.out.mono ?_
  intro e w3 hh
  obtain ⟨k3, s3, y, rfl, L3, T3, E3, m3, hn3, gn3, Ny, he3⟩ := one_of hh M2.out.L (by have := HF2.out; omega) (var_new (fun z hz => by
    rcases (HE2.out z).1 hz with e | e
    · subst e
      obtain ⟨_, t, d⟩ := HN2.out
      exact ⟨_, t, _, d, ne_at (fun i => decide (i = 0)) (by decide)⟩
    · cases e)) (by have := HF2.out; omega)
  have M3 := hide (M2.out.turn L3 T3)
  have hp3 := hide (T3.p.trans hp2.out)
  have HNy := hide Ny
  have HNx := hide (HN2.out.ext E3)
  have HE3 : Hid (∀ z : Nat, s3.he z = true ↔ z = y ∨ z = x) := hide (fun z => (he3 z).trans (or_congr Iff.rfl ((HE2.out z).trans ⟨fun h => h.resolve_right (fun h => by cases h), .inl⟩)))
  have hms3 : s3.ms = 10 := E3.ms.trans HF2.out.1
  have hvs3 : s3.vs = 2 := E3.vs.trans HF2.out.2.1
  have hm3 : s3.m ≤ 2 := by have := HF2.out; omega
  have hh3 : s3.hn = 2 := by have := HF2.out; omega
  have hg3 : s3.gn = 4 := by have := HF2.out; omega
  have HF3 := hide (And.intro hms3 (And.intro hvs3 (And.intro hm3 (And.intro hh3 hg3))))
  have HAND := hide (And_sem twoS k3 s3 x y _ _ 2 _ _ w3 L3.ar L3.ad ⟨L3.g0, L3.g1⟩ HNx.out.1 HNy.out.1 (HNx.out.2.choose_spec.mono two0) (HNy.out.2.choose_spec.mono two1) (by rw [nS_two]; omega) (by omega))
  rw [hp3.out] at HAND
  clear hh L3 T3 E3 m3 hn3 gn3 Ny he3 hms3 hvs3 hm3 hh3 hg3 HV1
  go_wp2_with fail
  refine HAND.out.mono ?_
  intro e w4 hh
  obtain ⟨k4, s4, z, rfl, L4, T4, E4, m4, hn4, gn4, Nz, he4⟩ := one_of hh M3.out.L (by have := HF3.out; omega) (and_new HNx.out HNy.out HE3.out) (by have := HF3.out; omega)
  have M4 := hide (M3.out.turn L4 T4)
  have hp4 := hide (T4.p.trans hp3.out)
  have HNz := hide Nz
  have HN4x := hide (HNx.out.ext E4)
  have HN4y := hide (HNy.out.ext E4)
  have hvs4 : s4.vs = 2 := E4.vs.trans HF3.out.2.1
  have hm4 : s4.m ≤ 100 := by have := HF3.out; omega
  have hh4 : s4.hn = 3 := by have := HF3.out; omega
  have HF4 := hide (And.intro hvs4 (And.intro hm4 hh4))
  -- what is told of the three
  have hx1 : (1 : Int) < x := by
    rcases (by omega : x = 0 ∨ x = 1 ∨ 2 ≤ x) with rfl | rfl | h
    · exact absurd (HN4x.out.fn (L4.no (oneS 0))) (ne_at (fun _ => true) (by decide))
    · exact absurd (HN4x.out.fn (L4.yes (oneS 0))) (ne_at (fun _ => false) (by decide))
    · omega
  have hy1 : (1 : Int) < y := by
    rcases (by omega : y = 0 ∨ y = 1 ∨ 2 ≤ y) with rfl | rfl | h
    · exact absurd (HN4y.out.fn (L4.no (oneS 1))) (ne_at (fun _ => true) (by decide))
    · exact absurd (HN4y.out.fn (L4.yes (oneS 1))) (ne_at (fun _ => false) (by decide))
    · omega
  have hz1 : (1 : Int) < z := by
    rcases (by omega : z = 0 ∨ z = 1 ∨ 2 ≤ z) with rfl | rfl | h
    · exact absurd (Nz.fn (L4.no twoS)) (ne_at (fun _ => true) (by decide))
    · exact absurd (Nz.fn (L4.yes twoS)) (ne_at (fun _ => false) (by decide))
    · omega
  have hxy : (x : Int) ≠ y := by
    intro e
    have : x = y := by omega
    subst this
    exact absurd (HN4x.out.fn HN4y.out) (ne_at (fun i => decide (i = 0)) (by decide))
  have b1 : decide ((1 : Int) < x) = true := by simpa using hx1
  have b2 : decide ((1 : Int) < y) = true := by simpa using hy1
  have b3 : decide ((1 : Int) < z) = true := by simpa using hz1
  have b4 : ((x : Int) != y) = true := by simpa using hxy
  have HAT := hide (fun (w' : World) (hb : Below w4.heap.size w4 w') (a b : Bool) (hS : Src w' (some ⟨w'.heap.size - 1, 0, none⟩) 2 2 1 ([a, b].map Value.bool)) => True.intro)
  have hb5 := bel_one w4 (.cells #[.bool true, .bool true] 4)
  have HA1 := hide (At_any twoS k4 s4 z _ andG _ 2 [true, true] _ (L4.below hb5).ar Nz.1 Nz.2.choose_spec (srcB2 w4 true true) (by rw [hvs4]; rfl) (by omega) (fun x hx => by unfold twoS at hx; simp at hx; omega) (by omega))
  rw [hp4.out, show andG (envOf [true, true]) = true by decide, show [true, true].length = 2 from rfl] at HA1
  have HB5 := hide hb5
  clear hh L4 T4 E4 m4 hn4 gn4 Nz he4 hvs4 hm4 hh4 HAND HAT hb5
  go_wp2_with fail
  refine HA1.out.mono ?_
  rintro e w5 ⟨rfl, hb⟩
  have M5 := hide (M4.out.below (below_wide HB5.out hb))
  have HA2 := hide (At_any twoS k4 s4 z _ andG _ 2 [true, false] _ (M5.out.L.below (bel_one w5 (.cells #[.bool true, .bool false] 4))).ar HNz.out.1 HNz.out.2.choose_spec (srcB2 w5 true false) (by rw [HF4.out.1]; rfl) (by have := HF4.out; omega) (fun x hx => by have := HF4.out; unfold twoS at hx; simp at hx; omega) (by have := HF4.out; omega))
  rw [hp4.out, show andG (envOf [true, false]) = false by decide, show [true, false].length = 2 from rfl] at HA2
  clear hb HA1 HB5
  go_wp2_with fail
  refine HA2.out.mono ?_
  rintro e w6 ⟨rfl, hb⟩
  have M6 := hide (M5.out.below (below_wide (bel_one w5 (.cells #[.bool true, .bool false] 4)) hb))
  have HCN := hide (Count_any twoS k4 s4 z _ andG _ 2 [0, 1] _ (M6.out.L.below (bel_one w6 (.cells #[.int .i64 0, .int .i64 1] 3))).ar (by have := HF4.out; omega) HNz.out.1 HNz.out.2.choose_spec (by decide) (fun x hx => by have := HF4.out; simp at hx; omega) (fun x hx => by unfold twoS at hx; simp at hx ⊢; omega) (src2 w6 0 1) (by decide) (by have := HF4.out; omega) (by
    have := min_le twoS HNz.out.2.choose
    rw [nS_two] at this
    have : 2 ^ nS twoS HNz.out.2.choose ≤ 2 ^ 2 := Nat.pow_le_pow_right (by omega) this
    omega))
  rw [hp4.out, show ofN (cntL andG [0, 1] z0) = (0, 1) by decide, show [0, 1].length = 2 from rfl] at HCN
  unfold cEl at HCN
  clear hb HA2
  go_wp2_with fail
  refine HCN.out.mono ?_
  rintro e w7 ⟨rfl, hb⟩
  have M7 := hide (M6.out.below (below_wide (bel_one w6 (.cells #[.int .i64 0, .int .i64 1] 3)) hb))
  clear hb HCN
  go_wp2_with fail
  have hb8 := bel_one w7 (.cells #[.int .u64 0, .int .u64 1] 34)
  have HU := hide (Used_any k4 s4 _ (M7.out.L.below hb8).ar)
  rw [hp4.out, HF4.out.2.2] at HU
  have HB8 := hide (M7.out.below hb8).b
  clear hb8
  refine HU.out.mono ?_
  rintro e w8 ⟨rfl, rfl⟩
  go_wp2_with fail
  go_ret
  exact ⟨rfl, HB8.out⟩
end Go.Proofs.Ytgfjdkkfgclhjaa.Bd
/- BddSplits: the walk (printed by gen_cv.py). -/
namespace Go.Proofs.Ytgfjdkkfgclhjaa.Bd
open Go.RowKit Go.Proofs.Ytgfjdkkfgclhjaa Go.Proofs.Ytgfjdkkfgclhjaa.Lx Go.Maps

theorem ix_of (i : Int) : ∃ n : Nat, n < 40 ∧ wrap64 ((IntKind.u64.wrap i).tmod 40) = (n : Int) := by
  have h0 : 0 ≤ IntKind.u64.wrap i := by
    simp only [IntKind.wrap, IntKind.signed, Bool.false_eq_true, if_false]
    exact Int.emod_nonneg _ (by decide)
  generalize IntKind.u64.wrap i = U at *
  rw [Int.tmod_eq_emod_of_nonneg h0]
  have h1 := Int.emod_nonneg U (show (40 : Int) ≠ 0 by decide)
  have h2 := Int.emod_lt_of_pos U (show (0 : Int) < 40 by decide)
  generalize U % 40 = R at *
  refine ⟨R.toNat, by omega, ?_⟩
  unfold wrap64
  omega
theorem wr_of {m : Nat} (h : m + 1 < maxLen) : wrap64 (m : Int) = m ∧ wrap64 ((m : Int) + 1 + 1) = ((m + 1 + 1 : Nat) : Int) := by
  unfold maxLen at h
  unfold wrap64
  constructor <;> omega
theorem meas_up {L m : Nat} {x : Int} (h : x = ((m + 1 + 1 : Nat) : Int)) (hlt : m + 1 < L) : L - (intOf (.int .i64 x)).toNat < L - (intOf (.int .i64 ((m + 1 : Nat) : Int))).toNat := by
  subst h
  simp [intOf]
  omega
/-- a row that is not the arena's -/
structure Off (k : Blk) (base : Nat) (v : Value) (n : Nat) (xs : List Value) (w : World) : Prop where
  own : w.ownsRow base 3 1 v n xs
  nf : ∀ g, v.ownBlock = some g → ¬ fp k g
theorem Off.turn {k k' : Blk} {base n : Nat} {v : Value} {xs : List Value} {w w' : World} (h : Off k base v n xs w) (T : Turn k k' w w') : Off k' base v n xs w' := by
  obtain ⟨ho, hf⟩ := h
  have hl := ho.lt
  rcases ho.2 with ⟨rfl, h2⟩ | ⟨g, cap, cur, rfl, _⟩
  · exact ⟨⟨ho.1, .inl ⟨rfl, h2⟩⟩, fun g hg => by cases hg⟩
  · have hn := hf g rfl
    have hg := (hl g rfl).2
    refine ⟨own_block ho (T.block g hg hn), fun g' hg' => ?_⟩
    cases hg'
    exact T.fpn hg hn
theorem off_new {k : Blk} {s : St} {n : Nat} {v : Value} {xs : List Value} {w w' : World} (L : Live w k s) (h : w'.ownsRow w.heap.size 3 1 v n xs) : Off k w.heap.size v n xs w' := by
  refine ⟨h, fun g hg hf => ?_⟩
  have := L.ar.lt g hf
  have := (h.lt g hg).1
  omega
set_option maxHeartbeats 16000000 in
set_option maxRecDepth 100000 in
theorem splits_any (A : Option Addr) (c : Nat) (ops : List Nat) (i0 j0 : Int) (w : World) (hS : Src w A ops.length c 1 (encB ops)) (hb : ∀ b ∈ ops, b < 256) :
    Calls Try.prog 6 #[.slice A ops.length c, .int .i64 i0, .int .i64 j0] w fun e w' => e = .returned (.bool true) ∧ Below w.heap.size w w' := by
  obtain ⟨i, hi, hii⟩ := ix_of i0
  obtain ⟨j, hj, hjj⟩ := ix_of j0
  have HSB := hide hS
  have HOB := hide hb
  clear hS hb
  go_enter Try.func6, Try.ntmps6
  go_wp2_with fail
  refine (new_any 40 4194304 _ (by omega) (by omega)).mono ?_
  rintro e w1 ⟨k1, rfl, ho⟩
  have M1 := hide (mine_new ho (by omega) (by omega))
  have Q1 := hide (std_new 40)
  clear ho
  go_wp2_with fail
  refine (works_any w1).mono ?_
  rintro e w2 ⟨rfl, hb⟩
  have M2 := hide (M1.out.below hb)
  clear hb M1
  have HC := hide (made_any k1 (St.new 40 4194304) A c ops w w2 M2.out HSB.out HOB.out (by show 32 ≤ 40; omega) (by rw [budm_40]; show 0 + 16777200 ≤ 1000000000; omega) (by show 2 + 40 ≤ 900000000; omega) (by rw [bud_40]; show 0 + 534490 ≤ 4194304; omega))
  go_wp2_with fail
  refine HC.out.mono ?_
  intro e w3 hh
  obtain ⟨k3, s3, f, S, he, L, T, E, Q, hS20, hS32, N⟩ := adv_made hh Q1.out
  subst he
  have M3 := hide (M2.out.turn L T)
  have hp3 := hide T.p
  have Q3 := hide Q
  have Nf := hide N
  have HSS := hide (And.intro hS20 hS32)
  generalize hF : madeF 40 0 ops = F at *
  clear hh L T E Q N HC M2 hF hS20 hS32
  have HC := hide (Var_live 1 k3 s3 i w3 M3.out.L (by rw [Q3.out.vs]; exact hi) (Nat.le_refl 1) (Q3.out.room (n := 1) (R := 2 ^ (1 + 2)) (by decide) (by decide) (by decide)))
  rw [hp3.out] at HC
  go_wp2_with fail
  simp only [hii, hjj]
  refine HC.out.mono ?_
  intro e w4 hh
  obtain ⟨k4, s4, v, he, L, T, E, Q, N⟩ := adv hh Q3.out
  subst he
  have M4 := hide (M3.out.turn L T)
  have hp4 := hide (T.p.trans hp3.out)
  have Q4 := hide (Q.wk (a' := 16777208) (b' := 534746) (c' := 43) (by decide) (by decide) (by decide))
  have Nv := hide N
  have Nfq := hide (Nf.out.ext E)
  clear hh L T E Q N HC M3 Nf
  have Nf := Nfq; clear Nfq
  have HC := hide (Restrict_live 20 S k4 s4 f i false F w4 M4.out.L Nf.out (by rw [Q4.out.vs]; exact hi) HSS.out.1 (Q4.out.room (n := 20) (R := walkR 20) (by decide) (by decide) (by decide)))
  rw [hp4.out] at HC
  go_wp2_with fail
  refine HC.out.mono ?_
  intro e w5 hh
  obtain ⟨k5, s5, lo, he, L, T, E, Q, N⟩ := adv hh Q4.out
  subst he
  have M5 := hide (M4.out.turn L T)
  have hp5 := hide (T.p.trans hp4.out)
  have Q5 := hide (Q.wk (a' := 100663290) (b' := 666073) (c' := 44) (by decide) (by decide) (by decide))
  have Nlo := hide N
  have Nfq := hide (Nf.out.ext E)
  have Nvq := hide (Nv.out.ext E)
  clear hh L T E Q N HC M4 Nf Nv
  have Nf := Nfq; clear Nfq
  have Nv := Nvq; clear Nvq
  have HC := hide (Restrict_live 20 S k5 s5 f i true F w5 M5.out.L Nf.out (by rw [Q5.out.vs]; exact hi) HSS.out.1 (Q5.out.room (n := 20) (R := walkR 20) (by decide) (by decide) (by decide)))
  rw [hp5.out] at HC
  go_wp2_with fail
  refine HC.out.mono ?_
  intro e w6 hh
  obtain ⟨k6, s6, hi', he, L, T, E, Q, N⟩ := adv hh Q5.out
  subst he
  have M6 := hide (M5.out.turn L T)
  have hp6 := hide (T.p.trans hp5.out)
  have Q6 := hide (Q.wk (a' := 184549372) (b' := 797400) (c' := 45) (by decide) (by decide) (by decide))
  have Nhi' := hide N
  have Nfq := hide (Nf.out.ext E)
  have Nvq := hide (Nv.out.ext E)
  have Nloq := hide (Nlo.out.ext E)
  clear hh L T E Q N HC M5 Nf Nv Nlo
  have Nf := Nfq; clear Nfq
  have Nv := Nvq; clear Nvq
  have Nlo := Nloq; clear Nloq
  have HC := hide (Ite_live 21 (fun x => S x || oneS i x) k6 s6 v hi' lo _ _ _ w6 M6.out.L (Nv.out.mono (fun x h => by simp [h])) (Nhi'.out.mono (fun x h => by simp [h])) (Nlo.out.mono (fun x h => by simp [h])) (by have h1 := nS_or S (oneS i) 0; have h2 := nS_one i; have h3 := HSS.out.1; omega) (Q6.out.room (n := 21) (R := 2 ^ (21 + 2)) (by decide) (by decide) (by decide)))
  rw [hp6.out] at HC
  go_wp2_with fail
  refine HC.out.mono ?_
  intro e w7 hh
  obtain ⟨k7, s7, ite, he, L, T, E, Q, N⟩ := adv hh Q6.out
  subst he
  have M7 := hide (M6.out.turn L T)
  have hp7 := hide (T.p.trans hp6.out)
  have Q7 := hide (Q.wk (a' := 192937980) (b' := 1059799) (c' := 46) (by decide) (by decide) (by decide))
  have Nite := hide N
  have Nfq := hide (Nf.out.ext E)
  have Nvq := hide (Nv.out.ext E)
  have Nloq := hide (Nlo.out.ext E)
  have Nhi'q := hide (Nhi'.out.ext E)
  clear hh L T E Q N HC M6 Nf Nv Nlo Nhi'
  have Nf := Nfq; clear Nfq
  have Nv := Nvq; clear Nvq
  have Nlo := Nloq; clear Nloq
  have Nhi' := Nhi'q; clear Nhi'q
  have E1 : ite = f := Nod.eq M7.out.L (by have := Nite.out; rw [halves F i] at this; exact this) Nf.out
  subst E1
  clear Nite
  clear Nv
  have HC := hide (Or_live 20 S k7 s7 lo hi' _ _ w7 M7.out.L Nlo.out Nhi'.out HSS.out.1 (Q7.out.room (n := 20) (R := 2 ^ (20 + 2)) (by decide) (by decide) (by decide)))
  rw [hp7.out] at HC
  go_wp2_with fail
  refine HC.out.mono ?_
  intro e w8 hh
  obtain ⟨k8, s8, o, he, L, T, E, Q, N⟩ := adv hh Q7.out
  subst he
  have M8 := hide (M7.out.turn L T)
  have hp8 := hide (T.p.trans hp7.out)
  have Q8 := hide (Q.wk (a' := 197132284) (b' := 1191126) (c' := 47) (by decide) (by decide) (by decide))
  have No := hide N
  have Nfq := hide (Nf.out.ext E)
  have Nloq := hide (Nlo.out.ext E)
  have Nhi'q := hide (Nhi'.out.ext E)
  clear hh L T E Q N HC M7 Nf Nlo Nhi'
  have Nf := Nfq; clear Nfq
  have Nlo := Nloq; clear Nloq
  have Nhi' := Nhi'q; clear Nhi'q
  have HC := hide (And_live 20 S k8 s8 lo hi' _ _ w8 M8.out.L Nlo.out Nhi'.out HSS.out.1 (Q8.out.room (n := 20) (R := 2 ^ (20 + 2)) (by decide) (by decide) (by decide)))
  rw [hp8.out] at HC
  go_wp2_with fail
  refine HC.out.mono ?_
  intro e w9 hh
  obtain ⟨k9, s9, an, he, L, T, E, Q, N⟩ := adv hh Q8.out
  subst he
  have M9 := hide (M8.out.turn L T)
  have hp9 := hide (T.p.trans hp8.out)
  have Q9 := hide (Q.wk (a' := 201326588) (b' := 1322453) (c' := 48) (by decide) (by decide) (by decide))
  have Nan := hide N
  have Nfq := hide (Nf.out.ext E)
  have Nloq := hide (Nlo.out.ext E)
  have Nhi'q := hide (Nhi'.out.ext E)
  have Noq := hide (No.out.ext E)
  clear hh L T E Q N HC M8 Nf Nlo Nhi' No
  have Nf := Nfq; clear Nfq
  have Nlo := Nloq; clear Nloq
  have Nhi' := Nhi'q; clear Nhi'q
  have No := Noq; clear Noq
  clear Nlo
  clear Nhi'
  have hbl := bel_one w9 (.cells #[.int .i64 i] 3)
  have MA := hide (M9.out.below hbl)
  have HC := hide (Exists_live 20 S k9 s9 ite _ _ _ [i] (w9.alloc (.cells #[.int .i64 i] 3)) MA.out.L Nf.out (src1 w9 i) (by simp [maxLen]) (by rw [Q9.out.vs]; intro x hx; first | (simp at hx; done) | (simp at hx; omega)) HSS.out.1 (Q9.out.room (n := 20) (R := walkR 20) (by decide) (by decide) (by decide)))
  rw [hp9.out] at HC
  go_wp2_with fail
  refine HC.out.mono ?_
  intro e w10 hh
  obtain ⟨k10, s10, sm, he, L, T, E, Q, N⟩ := adv hh Q9.out
  subst he
  have M10 := hide (MA.out.turn L T)
  have hp10 := hide (T.p.trans hp9.out)
  have Q10 := hide (Q.wk (a' := 285212670) (b' := 1453780) (c' := 49) (by decide) (by decide) (by decide))
  have Nsm := hide N
  have Nfq := hide (Nf.out.ext E)
  have Noq := hide (No.out.ext E)
  have Nanq := hide (Nan.out.ext E)
  clear hh L T E Q N HC M9 MA hbl Nf No Nan
  have Nf := Nfq; clear Nfq
  have No := Noq; clear Noq
  have Nan := Nanq; clear Nanq
  have E2 : o = sm := Nod.eq M10.out.L No.out (by have := Nsm.out; rw [over_one joins_or (by omega)] at this; exact this)
  subst E2
  clear Nsm
  have hbl := bel_one w10 (.cells #[.int .i64 i] 3)
  have MA := hide (M10.out.below hbl)
  have HC := hide (Forall_live 20 S k10 s10 ite _ _ _ [i] (w10.alloc (.cells #[.int .i64 i] 3)) MA.out.L Nf.out (src1 w10 i) (by simp [maxLen]) (by rw [Q10.out.vs]; intro x hx; first | (simp at hx; done) | (simp at hx; omega)) HSS.out.1 (Q10.out.room (n := 20) (R := walkR 20) (by decide) (by decide) (by decide)))
  rw [hp10.out] at HC
  go_wp2_with fail
  refine HC.out.mono ?_
  intro e w11 hh
  obtain ⟨k11, s11, al, he, L, T, E, Q, N⟩ := adv hh Q10.out
  subst he
  have M11 := hide (MA.out.turn L T)
  have hp11 := hide (T.p.trans hp10.out)
  have Q11 := hide (Q.wk (a' := 369098752) (b' := 1585107) (c' := 50) (by decide) (by decide) (by decide))
  have Nal := hide N
  have Nfq := hide (Nf.out.ext E)
  have Noq := hide (No.out.ext E)
  have Nanq := hide (Nan.out.ext E)
  clear hh L T E Q N HC M10 MA hbl Nf No Nan
  have Nf := Nfq; clear Nfq
  have No := Noq; clear Noq
  have Nan := Nanq; clear Nanq
  have E3 : an = al := Nod.eq M11.out.L Nan.out (by have := Nal.out; rw [over_one joins_and (by omega)] at this; exact this)
  subst E3
  clear Nal
  have hbl := bel_one w11 (.cells #[.int .i64 i, .int .i64 j] 3)
  have MA := hide (M11.out.below hbl)
  have HC := hide (Exists_live 20 S k11 s11 ite _ _ _ [i, j] (w11.alloc (.cells #[.int .i64 i, .int .i64 j] 3)) MA.out.L Nf.out (src2 w11 i j) (by simp [maxLen]) (by rw [Q11.out.vs]; intro x hx; first | (simp at hx; done) | (simp at hx; omega)) HSS.out.1 (Q11.out.room (n := 20) (R := walkR 20) (by decide) (by decide) (by decide)))
  rw [hp11.out] at HC
  go_wp2_with fail
  refine HC.out.mono ?_
  intro e w12 hh
  obtain ⟨k12, s12, tw, he, L, T, E, Q, N⟩ := adv hh Q11.out
  subst he
  have M12 := hide (MA.out.turn L T)
  have hp12 := hide (T.p.trans hp11.out)
  have Q12 := hide (Q.wk (a' := 452984834) (b' := 1716434) (c' := 51) (by decide) (by decide) (by decide))
  have Ntw := hide N
  have Nfq := hide (Nf.out.ext E)
  have Noq := hide (No.out.ext E)
  have Nanq := hide (Nan.out.ext E)
  clear hh L T E Q N HC M11 MA hbl Nf No Nan
  have Nf := Nfq; clear Nfq
  have No := Noq; clear Noq
  have Nan := Nanq; clear Nanq
  have hbl := bel_one w12 (.cells #[.int .i64 j] 3)
  have MA := hide (M12.out.below hbl)
  have HC := hide (Exists_live 20 S k12 s12 o _ _ _ [j] (w12.alloc (.cells #[.int .i64 j] 3)) MA.out.L No.out (src1 w12 j) (by simp [maxLen]) (by rw [Q12.out.vs]; intro x hx; first | (simp at hx; done) | (simp at hx; omega)) HSS.out.1 (Q12.out.room (n := 20) (R := walkR 20) (by decide) (by decide) (by decide)))
  rw [hp12.out] at HC
  go_wp2_with fail
  refine HC.out.mono ?_
  intro e w13 hh
  obtain ⟨k13, s13, on, he, L, T, E, Q, N⟩ := adv hh Q12.out
  subst he
  have M13 := hide (MA.out.turn L T)
  have hp13 := hide (T.p.trans hp12.out)
  have Q13 := hide (Q.wk (a' := 536870916) (b' := 1847761) (c' := 52) (by decide) (by decide) (by decide))
  have Non := hide N
  have Nfq := hide (Nf.out.ext E)
  have Noq := hide (No.out.ext E)
  have Nanq := hide (Nan.out.ext E)
  have Ntwq := hide (Ntw.out.ext E)
  clear hh L T E Q N HC M12 MA hbl Nf No Nan Ntw
  have Nf := Nfq; clear Nfq
  have No := Noq; clear Noq
  have Nan := Nanq; clear Nanq
  have Ntw := Ntwq; clear Ntwq
  have hbl := bel_one w13 (.cells #[.int .i64 j, .int .i64 i] 3)
  have MA := hide (M13.out.below hbl)
  have HC := hide (Exists_live 20 S k13 s13 ite _ _ _ [j, i] (w13.alloc (.cells #[.int .i64 j, .int .i64 i] 3)) MA.out.L Nf.out (src2 w13 j i) (by simp [maxLen]) (by rw [Q13.out.vs]; intro x hx; first | (simp at hx; done) | (simp at hx; omega)) HSS.out.1 (Q13.out.room (n := 20) (R := walkR 20) (by decide) (by decide) (by decide)))
  rw [hp13.out] at HC
  go_wp2_with fail
  refine HC.out.mono ?_
  intro e w14 hh
  obtain ⟨k14, s14, ow, he, L, T, E, Q, N⟩ := adv hh Q13.out
  subst he
  have M14 := hide (MA.out.turn L T)
  have hp14 := hide (T.p.trans hp13.out)
  have Q14 := hide (Q.wk (a' := 620756998) (b' := 1979088) (c' := 53) (by decide) (by decide) (by decide))
  have Now := hide N
  have Nfq := hide (Nf.out.ext E)
  have Noq := hide (No.out.ext E)
  have Nanq := hide (Nan.out.ext E)
  have Ntwq := hide (Ntw.out.ext E)
  have Nonq := hide (Non.out.ext E)
  clear hh L T E Q N HC M13 MA hbl Nf No Nan Ntw Non
  have Nf := Nfq; clear Nfq
  have No := Noq; clear Noq
  have Nan := Nanq; clear Nanq
  have Ntw := Ntwq; clear Ntwq
  have Non := Nonq; clear Nonq
  have E4 : tw = on := Nod.eq M14.out.L (by have := Ntw.out; rw [over_two joins_or (by omega) (by omega), quant_comm joins_or] at this; exact this) (by have := Non.out; rw [over_one joins_or (by omega)] at this; exact this)
  have E5 : tw = ow := Nod.eq M14.out.L (by have := Ntw.out; rw [over_two joins_or (by omega) (by omega), quant_comm joins_or] at this; exact this) (by have := Now.out; rw [over_two joins_or (by omega) (by omega)] at this; exact this)
  subst E4 E5
  clear Non
  clear Now
  clear Ntw
  have HQ := hide (show o < s14.nd.length ∧ s14.gi o = true from by
    obtain ⟨g, t, d⟩ := No.out
    exact ⟨d.lt M14.out.L.ar.wf, g⟩)
  have HC := hide (Support_any k14 s14 o w14 M14.out.L.ar HQ.out.2 HQ.out.1 (by have := Q14.out.m; omega))
  rw [hp14.out] at HC
  go_wp2_with fail
  refine HC.out.mono ?_
  rintro e wS ⟨vl, rfl, hown, hbl⟩
  have HL := hide (off_new M14.out.L hown)
  have MS := hide (M14.out.below hbl)
  have HSM := hide (supp_or M14.out.L.ar.wf No.out)
  have HSU := hide (supL_up s14.nd o)
  obtain ⟨AL, cL, rfl⟩ := own_slice hown
  generalize hlL : supL s14.nd o = lL at *
  clear hown hbl HC HQ hlL M14
  have M14 := MS; clear MS
  have HC := hide (Exists_live 20 S k14 s14 ite _ _ _ [] wS M14.out.L Nf.out (⟨rfl, .inl ⟨rfl, rfl, rfl⟩⟩) (by simp [maxLen]) (by rw [Q14.out.vs]; intro x hx; first | (simp at hx; done) | (simp at hx; omega)) HSS.out.1 (Q14.out.room (n := 20) (R := walkR 20) (by decide) (by decide) (by decide)))
  rw [hp14.out] at HC
  go_wp2_with fail
  refine HC.out.mono ?_
  intro e w15 hh
  obtain ⟨k15, s15, sa, he, L, T, E, Q, N⟩ := adv hh Q14.out
  subst he
  have M15 := hide (M14.out.turn L T)
  have hp15 := hide (T.p.trans hp14.out)
  have Q15 := hide (Q.wk (a' := 704643080) (b' := 2110415) (c' := 54) (by decide) (by decide) (by decide))
  have Nsa := hide N
  have Nfq := hide (Nf.out.ext E)
  have Noq := hide (No.out.ext E)
  have Nanq := hide (Nan.out.ext E)
  have HLq := hide (HL.out.turn T)
  clear HL
  clear hh L T E Q N HC M14 Nf No Nan
  have Nf := Nfq; clear Nfq
  have No := Noq; clear Noq
  have Nan := Nanq; clear Nanq
  have HL := HLq; clear HLq
  have E6 : sa = ite := Nod.eq M15.out.L (by have := Nsa.out; rw [over_nil] at this; exact this) Nf.out
  subst E6
  clear Nsa
  have HC := hide (Not_live 20 S k15 s15 sa _ w15 M15.out.L Nf.out HSS.out.1 (Q15.out.room (n := 20) (R := 2 ^ (20 + 2)) (by decide) (by decide) (by decide)))
  rw [hp15.out] at HC
  go_wp2_with fail
  refine HC.out.mono ?_
  intro e w16 hh
  obtain ⟨k16, s16, no, he, L, T, E, Q, N⟩ := adv hh Q15.out
  subst he
  have M16 := hide (M15.out.turn L T)
  have hp16 := hide (T.p.trans hp15.out)
  have Q16 := hide (Q.wk (a' := 708837384) (b' := 2241742) (c' := 55) (by decide) (by decide) (by decide))
  have Nno := hide N
  have Nfq := hide (Nf.out.ext E)
  have Noq := hide (No.out.ext E)
  have Nanq := hide (Nan.out.ext E)
  have HLq := hide (HL.out.turn T)
  clear HL
  clear hh L T E Q N HC M15 Nf No Nan
  have Nf := Nfq; clear Nfq
  have No := Noq; clear Noq
  have Nan := Nanq; clear Nanq
  have HL := HLq; clear HLq
  have hbl := bel_one w16 (.cells #[.int .i64 i] 3)
  have MA := hide (M16.out.below hbl)
  have HC := hide (Exists_live 20 S k16 s16 no _ _ _ [i] (w16.alloc (.cells #[.int .i64 i] 3)) MA.out.L Nno.out (src1 w16 i) (by simp [maxLen]) (by rw [Q16.out.vs]; intro x hx; first | (simp at hx; done) | (simp at hx; omega)) HSS.out.1 (Q16.out.room (n := 20) (R := walkR 20) (by decide) (by decide) (by decide)))
  rw [hp16.out] at HC
  go_wp2_with fail
  refine HC.out.mono ?_
  intro e w17 hh
  obtain ⟨k17, s17, na, he, L, T, E, Q, N⟩ := adv hh Q16.out
  subst he
  have M17 := hide (MA.out.turn L T)
  have hp17 := hide (T.p.trans hp16.out)
  have Q17 := hide (Q.wk (a' := 792723466) (b' := 2373069) (c' := 56) (by decide) (by decide) (by decide))
  have Nna := hide N
  have Nfq := hide (Nf.out.ext E)
  have Noq := hide (No.out.ext E)
  have Nanq := hide (Nan.out.ext E)
  have Nnoq := hide (Nno.out.ext E)
  have HLq := hide (HL.out.turn ((Turn.below hbl).trans T))
  clear HL
  clear hh L T E Q N HC M16 MA hbl Nf No Nan Nno
  have Nf := Nfq; clear Nfq
  have No := Noq; clear Noq
  have Nan := Nanq; clear Nanq
  have Nno := Nnoq; clear Nnoq
  have HL := HLq; clear HLq
  have HC := hide (Not_live 20 S k17 s17 an _ w17 M17.out.L Nan.out HSS.out.1 (Q17.out.room (n := 20) (R := 2 ^ (20 + 2)) (by decide) (by decide) (by decide)))
  rw [hp17.out] at HC
  go_wp2_with fail
  refine HC.out.mono ?_
  intro e w18 hh
  obtain ⟨k18, s18, nt, he, L, T, E, Q, N⟩ := adv hh Q17.out
  subst he
  have M18 := hide (M17.out.turn L T)
  have hp18 := hide (T.p.trans hp17.out)
  have Q18 := hide (Q.wk (a' := 796917770) (b' := 2504396) (c' := 57) (by decide) (by decide) (by decide))
  have Nnt := hide N
  have Nfq := hide (Nf.out.ext E)
  have Noq := hide (No.out.ext E)
  have Nanq := hide (Nan.out.ext E)
  have Nnoq := hide (Nno.out.ext E)
  have Nnaq := hide (Nna.out.ext E)
  have HLq := hide (HL.out.turn T)
  clear HL
  clear hh L T E Q N HC M17 Nf No Nan Nno Nna
  have Nf := Nfq; clear Nfq
  have No := Noq; clear Noq
  have Nan := Nanq; clear Nanq
  have Nno := Nnoq; clear Nnoq
  have Nna := Nnaq; clear Nnaq
  have HL := HLq; clear HLq
  have E7 : na = nt := Nod.eq M18.out.L (by have := Nna.out; rw [over_one joins_or (by omega), not_all] at this; exact this) Nnt.out
  subst E7
  have HB := hide M18.out.b
  go_wp2_with fail
  go_loopw [34] (fun v wr => ∃ n : Nat, v = .int .i64 n ∧ n ≤ lL.length ∧ Below w18.heap.size w18 wr) (fun v _ => lL.length - (intOf v).toNat)
  case atStart => exact ⟨0, rfl, Nat.zero_le _, Below.refl _ _⟩
  case round =>
    obtain ⟨n, rfl, hn, hbl⟩ := hrel
    have HBL := hide hbl
    clear hbl
    rcases Nat.lt_or_ge n lL.length with hlt | hge
    · obtain ⟨x, hx⟩ : ∃ x, lL[n]? = some x := ⟨_, List.getElem?_eq_getElem hlt⟩
      obtain ⟨ad, rfl, cx⟩ := src_at ((src_of_own HL.out.own).below HBL.out) hx
      have d1 : decide (n < lL.length) = true := by simpa using hlt
      have d1' : decide ((n : Int) < lL.length) = true := by simp; omega
      have hxi : (x == (i : Int)) = false := by simpa using HSM.out x (List.mem_of_getElem? hx)
      have hmx : n < maxLen := by rcases HL.out.own.2 with ⟨_, h⟩ | ⟨_, cap, _, _, _, _, h2, h3, _⟩ <;> omega
      rcases Nat.eq_zero_or_pos n with rfl | hpos
      · have cx0 : ∀ z, (lat wr z).cell? ad = some (.int .i64 x) := lat_cell (show wr.cell? ad = some (.int .i64 x) from cx)
        have d2 : ((0 : Int) < lL.length) := by omega
        have e2 : decide (x = (i : Int)) = false := by simpa using hxi
        clear cx
        go_wp2_with fail
        refine wp_region_lat (by kernel_rfl) (by kernel_rfl) ?_
        repeat (first | go_big_quiet_step ((fail)) | quiet_step ((fail)))
        refine wpQuiet_nil ?_
        intro _ hlat
        obtain ⟨wq, rfl⟩ := hlat
        go_wp2_with fail
        go_roundw
        case rel => exact ⟨1, by go_num, by omega, below_wide HBL.out (lat_below _ _)⟩
        case measure => simp [intOf]; omega
      · obtain ⟨m, rfl⟩ : ∃ m, n = m + 1 := ⟨n - 1, by omega⟩
        obtain ⟨y, hy⟩ : ∃ y, lL[m]? = some y := ⟨_, List.getElem?_eq_getElem (by omega)⟩
        obtain ⟨ad', had, cy⟩ := src_at ((src_of_own HL.out.own).below HBL.out) hy
        cases had
        have hyx : y < x := by
          have := List.pairwise_iff_getElem.1 HSU.out m (m + 1) (by omega) hlt (by omega)
          rw [List.getElem?_eq_getElem (by omega)] at hy
          rw [List.getElem?_eq_getElem hlt] at hx
          cases hy
          cases hx
          exact this
        have d3 : decide (x ≤ y) = false := by simp; omega
        have d4 : decide ((0 : Int) < ((m + 1 : Nat) : Int)) = true := by simp
        have d5 : decide ((0 : Int) < (m : Int) + 1) = true := by simp
        have d6 : ((m : Int) < lL.length) := by omega
        have hmx2 : m < maxLen := by omega
        have hmx3 : m + 1 < maxLen := hmx
        have d7 : ((m : Int) + 1 < lL.length) := by omega
        have e2 : decide (x = (i : Int)) = false := by simpa using hxi
        have hwm := (wr_of hmx3).1
        have HW2 := hide (wr_of hmx3).2
        have cx1 : ∀ z, (lat wr z).cell? ⟨ad.block, ad.off + (m + 1), none⟩ = some (.int .i64 x) := lat_cell (show wr.cell? ⟨ad.block, ad.off + (m + 1), none⟩ = some (.int .i64 x) from cx)
        have cy1 : ∀ z, (lat wr z).cell? (ad.add m) = some (.int .i64 y) := lat_cell cy
        clear cx cy
        go_wp2_with fail
        refine wp_region_lat (by kernel_rfl) (by kernel_rfl) ?_
        repeat (first | go_big_quiet_step ((fail)) | quiet_step ((fail)))
        refine wpQuiet_nil ?_
        intro _ hlat
        obtain ⟨wq, rfl⟩ := hlat
        go_wp2_with fail
        go_roundw
        case rel => exact ⟨m + 1 + 1, congrArg (Value.int .i64) HW2.out, hlt, below_wide HBL.out (lat_below _ _)⟩
        case measure => exact meas_up HW2.out hlt
    · have e : n = lL.length := by omega
      have d1 : decide (n < lL.length) = false := by simp; omega
      have d1' : decide ((n : Int) < lL.length) = false := by simp; omega
      clear e
      go_wp2_with fail
      go_ret
      exact ⟨rfl, below_wide HB.out HBL.out⟩
end Go.Proofs.Ytgfjdkkfgclhjaa.Bd
/- What the arguments of the statements on arenas read as: bytes, truth values, numbers. -/
namespace Go.Proofs.Ytgfjdkkfgclhjaa.Bd
open Go.ChangeShapes Go.WideShapes Go.ChangeAt Go.RowKit Go.Proofs.Ytgfjdkkfgclhjaa Go.Proofs.Ytgfjdkkfgclhjaa.Lx

theorem ownB : ownKnob Try.prog.godebug = none := by kernel_rfl
theorem laidOutB_ : laidOutB Try.prog = true := by kernel_rfl
theorem cellsByte : Try.prog.cellsOf 5 = 1 := by kernel_rfl
theorem cellsBool : Try.prog.cellsOf 4 = 1 := by kernel_rfl
theorem cellsInt : Try.prog.cellsOf 3 = 1 := by kernel_rfl
theorem wf_u8 {x : Int} (h : (Lit.int .u8 x).wf = true) : 0 ≤ x ∧ x ≤ 255 := by
  simpa [Lit.wf, IntKind.min, IntKind.max, IntKind.signed, IntKind.bits] using h
section
variable {H : Type} {enc : TypeId × Value → H} {w : World} {base : Nat} {spare : Nat → Bool} {held : Bool}
theorem open_bytes {n : Nat} {cs : List Value} {x : DataW H × List MemPlace} (h : DataW.trod enc Try.prog w base spare held n 22 cs = some x) :
    ∃ A c, ∃ ops : List Nat, cs = [.slice A ops.length c] ∧ (∀ b ∈ ops, b < 256) ∧ Src w A ops.length c 1 (encB ops) ∧ ops.length ≤ maxLen := by
  rcases open_ints Try.underlying22 Try.underlying5 cellsByte h with ⟨hcs, _⟩ | ⟨a, len, cap, zs, hcs, _, hl, hm, hz, hx, hcell, hwf⟩
  · exact ⟨none, 0, [], hcs, by simp, ⟨by simp [encB], .inl ⟨rfl, rfl, rfl⟩⟩, by simp [maxLen]⟩
  · have hlen : len ≤ zs.length := by rw [hz]; split <;> omega
    have hb : ∀ i, i < len → ∃ z, zs[i]? = some z ∧ 0 ≤ z ∧ z ≤ 255 := fun i hi => by
      have hi' : i < zs.length := by omega
      exact ⟨zs[i], List.getElem?_eq_getElem hi', wf_u8 (hwf _ (List.getElem_mem hi'))⟩
    have hll : ((zs.take len).map Int.toNat).length = len := by simp; omega
    refine ⟨some a, cap, (zs.take len).map Int.toNat, by rw [hll]; exact hcs, fun b hb' => ?_, ?_, by omega⟩
    rotate_left
    · rw [hll]
      refine ⟨by unfold encB; simp; omega, .inr ⟨a, rfl, fun j u hu => ?_⟩⟩
      have hj : j < len := by
        have := (List.getElem?_eq_some_iff.1 hu).1
        unfold encB at this
        simp at this
        omega
      obtain ⟨z, hz', h0, h1⟩ := hb j hj
      have hu2 : u = .int .u8 z := by
        unfold encB at hu
        rw [List.getElem?_map, List.getElem?_map, List.getElem?_take_of_lt hj, hz'] at hu
        simp at hu
        rw [← hu, Int.max_eq_left h0]
      have hc := hcell j (by omega)
      rw [List.getD_eq_getElem?_getD, hz'] at hc
      rw [hu2]; exact hc
    · obtain ⟨z, hz', rfl⟩ := List.mem_map.1 hb'
      have := wf_u8 (hwf z (List.mem_of_mem_take hz'))
      omega
theorem open_truths {n : Nat} {cs : List Value} {x : DataW H × List MemPlace} (h : DataW.trod enc Try.prog w base (fun _ => true) held n 23 cs = some x) :
    ∃ A c, ∃ l : List Bool, cs = [.slice A l.length c] ∧ Src w A l.length c 1 (l.map Value.bool) ∧ l.length ≤ maxLen := by
  rcases Go.Deep.open_bools Try.underlying23 Try.underlying4 cellsBool h with ⟨hcs, _⟩ | ⟨a, len, cap, E, hcs, _, hl, hm, hx, hE⟩
  · exact ⟨none, 0, [], hcs, ⟨by simp, .inl ⟨rfl, rfl, rfl⟩⟩, by simp [maxLen]⟩
  · refine ⟨some a, cap, (List.range len).map E, by simpa using hcs, ⟨by simp, .inr ⟨a, rfl, fun j u hu => ?_⟩⟩, by simp; omega⟩
    have hj : j < len := by
      have := (List.getElem?_eq_some_iff.1 hu).1
      simpa using this
    rw [List.getElem?_map, List.getElem?_map, List.getElem?_range hj] at hu
    rw [hE j (by omega)]; exact hu
theorem open_nums {n : Nat} {cs : List Value} {x : DataW H × List MemPlace} (h : DataW.trod enc Try.prog w base spare held n 37 cs = some x) :
    ∃ A c, ∃ l : List Int, cs = [.slice A l.length c] ∧ Src w A l.length c 1 (l.map encI) ∧ l.length ≤ maxLen := by
  rcases open_ints Try.underlying37 Try.underlying3 cellsInt h with ⟨hcs, _⟩ | ⟨a, len, cap, zs, hcs, _, hl, hm, hz, hx, hcell, _⟩
  · exact ⟨none, 0, [], hcs, ⟨by simp, .inl ⟨rfl, rfl, rfl⟩⟩, by simp [maxLen]⟩
  · have hlen : len ≤ zs.length := by rw [hz]; split <;> omega
    have hll : (zs.take len).length = len := by simp; omega
    refine ⟨some a, cap, zs.take len, by rw [hll]; exact hcs, ?_, by omega⟩
    rw [hll]
    refine ⟨by simp; omega, .inr ⟨a, rfl, fun j u hu => ?_⟩⟩
    have hj : j < len := by
      have := (List.getElem?_eq_some_iff.1 hu).1
      simp at this
      omega
    have hjz : j < zs.length := by omega
    have hc := hcell j hjz
    rw [List.getElem?_map, List.getElem?_take_of_lt hj, List.getElem?_eq_getElem hjz] at hu
    rw [List.getD_eq_getElem?_getD, List.getElem?_eq_getElem hjz] at hc
    simp at hu
    rw [← hu]; exact hc
end
end Go.Proofs.Ytgfjdkkfgclhjaa.Bd
