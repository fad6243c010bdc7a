/- What a caller of an arena holds: nodes that are functions; each call said of functions, where there is room. -/
import Derived.Test.YtgfjdkkfgclhjaaCI
namespace Go.Proofs.Ytgfjdkkfgclhjaa.Bd
open Go.RowKit Go.Proofs.Ytgfjdkkfgclhjaa Go.Proofs.Ytgfjdkkfgclhjaa.Lx Go.Maps

/-- a node that was given out, as a function over variables of S -/
def Nod (s : St) (f : Nat) (S : Nat → Bool) (F : Env → Bool) : Prop := s.gi f = true ∧ OkSem S F s.nd f
structure Live (w : World) (k : Blk) (s : St) : Prop where
  ar : Ar w k s
  ad : Adm s
  g0 : s.gi 0 = true
  g1 : s.gi 1 = true
structure Ext (s s' : St) : Prop where
  vs : s'.vs = s.vs
  ms : s'.ms = s.ms
  gi : ∀ x, s.gi x = true → s'.gi x = true
  nd : ∃ ex, s'.nd = s.nd ++ ex
theorem Ext.refl (s : St) : Ext s s := ⟨rfl, rfl, fun _ h => h, ⟨[], by simp⟩⟩
theorem Ext.trans {a b c : St} (h : Ext a b) (h2 : Ext b c) : Ext a c := by
  obtain ⟨e1, h1⟩ := h.nd
  obtain ⟨e2, h2'⟩ := h2.nd
  exact ⟨h2.vs.trans h.vs, h2.ms.trans h.ms, fun x hx => h2.gi x (h.gi x hx), ⟨e1 ++ e2, by rw [h2', h1, List.append_assoc]⟩⟩
theorem Nod.ext {s s' : St} {f : Nat} {S : Nat → Bool} {F : Env → Bool} (h : Nod s f S F) (E : Ext s s') : Nod s' f S F := by
  obtain ⟨g, t, d⟩ := h
  obtain ⟨ex, e⟩ := E.nd
  exact ⟨E.gi _ g, t, by rw [e]; exact d.append⟩
theorem Nod.mono {s : St} {f : Nat} {S S' : Nat → Bool} {F : Env → Bool} (h : Nod s f S F) (hs : ∀ x, S x = true → S' x = true) : Nod s f S' F := by
  obtain ⟨g, t, d⟩ := h
  exact ⟨g, t, d.mono hs⟩
theorem Live.below {w w' : World} {k : Blk} {s : St} (h : Live w k s) (hb : Below w.heap.size w w') : Live w' k s := ⟨h.ar.below hb, h.ad, h.g0, h.g1⟩
theorem Live.no {w : World} {k : Blk} {s : St} (h : Live w k s) (S : Nat → Bool) : Nod s 0 S (fun _ => false) := ⟨h.g0, 256, .zero⟩
theorem Live.yes {w : World} {k : Blk} {s : St} (h : Live w k s) (S : Nat → Bool) : Nod s 1 S (fun _ => true) := ⟨h.g1, 256, .one⟩
/-- two nodes of one function are one; and one is one function's alone -/
theorem Nod.eq {w : World} {k : Blk} {s : St} (h : Live w k s) {f g : Nat} {S S' : Nat → Bool} {F : Env → Bool} (a : Nod s f S F) (b : Nod s g S' F) : f = g := by
  obtain ⟨_, _, d⟩ := a
  obtain ⟨_, _, d'⟩ := b
  exact d.eq h.ar.wf.once d'
theorem Nod.fn {s : St} {f : Nat} {S S' : Nat → Bool} {F G : Env → Bool} (a : Nod s f S F) (b : Nod s f S' G) : F = G := by
  obtain ⟨_, _, d⟩ := a
  obtain ⟨_, _, d'⟩ := b
  exact (d.det2 d').2
/-- an answer that is a node -/
def SemOut (k : Blk) (s : St) (w : World) (R B : Nat) (S : Nat → Bool) (G : Env → Bool) (e : Ending) (w' : World) : Prop :=
  ∃ (k' : Blk) (s' : St) (r : Nat), e = .returned (.tuple #[.int .i64 (r : Nat), .int .i64 0]) ∧ Live w' k' s' ∧ Turn k k' w w' ∧ Ext s s' ∧ s'.m + 2 ≤ s.m + R ∧ s'.hn ≤ s.hn + B ∧ s'.gn = s.gn + 1 ∧ Nod s' r S G
theorem sem_of {k : Blk} {s : St} {w w' : World} {R n : Nat} {S : Nat → Bool} {G : Env → Bool} {e : Ending} (h : ApiOut k s w R (OkSem S G) e w') (L : Live w k s) (hgn : s.gn + 1 ≤ 900000000) (hn : nS S 0 ≤ n) (hB : s.hn + 2 ^ (n - 3) + 255 ≤ s.ms) : SemOut k s w R (2 ^ (n - 3) + 255) S G e w' := by
  obtain ⟨k', s1, r, U, hm, ⟨t, d⟩, T, hw, hr, h⟩ := h
  have hf := fresh_le hw d
  have hp : 2 ^ (nS S t - 3) ≤ 2 ^ (n - 3) := Nat.pow_le_pow_right (by omega) (by have := min_le S t; omega)
  rcases h with ⟨h1, _⟩ | ⟨h1, he, hA⟩
  · omega
  · have had := L.ad
    have ugi := U.gi
    refine ⟨k', s1.give r, r, he, ⟨hA, ⟨?_, ?_, ?_, ?_⟩, ?_, ?_⟩, T, ⟨?_, ?_, fun x hx => ?_, ?_⟩, ?_, ?_, ?_, ?_, t, d⟩
    · show s1.ms ≤ _; rw [U.ms]; exact had.ms
    · show s1.hn + (fresh s1 r).length ≤ _; rw [U.hn]; have := had.ms; omega
    · show s1.gn + 1 ≤ _; rw [U.gn]; omega
    · show s1.vs ≤ _; rw [U.vs]; exact had.vs
    · show (decide ((0 : Int) = r) || s1.gi 0) = true; rw [U.gi, L.g0]; simp
    · show (decide ((1 : Int) = r) || s1.gi 1) = true; rw [U.gi, L.g1]; simp
    · exact U.vs
    · exact U.ms
    · show (decide (x = r) || s1.gi x) = true; rw [U.gi, hx]; simp
    · exact U.nd
    · exact hm
    · show s1.hn + (fresh s1 r).length ≤ _; rw [U.hn]; omega
    · show s1.gn + 1 = _; rw [U.gn]
    · show (decide ((r : Int) = r) || s1.gi r) = true; simp
theorem sem_at {k : Blk} {s : St} {w w1 : World} {R B : Nat} {S : Nat → Bool} {G : Env → Bool} {e : Ending} {w' : World} (h : SemOut k s w1 R B S G e w') (hb : Below w.heap.size w w1) : SemOut k s w R B S G e w' := by
  obtain ⟨k', s', r, h1, h2, h3, h4⟩ := h
  exact ⟨k', s', r, h1, h2, (Turn.below hb).trans h3, h4⟩
def oneS (i : Nat) : Nat → Bool := fun x => decide (x = i)
theorem nS_one (i : Nat) : nS (oneS i) 0 ≤ 1 := by
  have : nS (oneS i) 0 ≤ nS (oneS 0) 0 := nS_sub (fun _ => i) (fun y _ _ h => ⟨0, Nat.le_refl _, by omega, by simp [oneS], by unfold oneS at h; simp at h; exact h.symm⟩)
  have h0 : nS (oneS 0) 0 = 1 := by decide
  omega
/-- a variable -/
theorem Var_sem (k : Blk) (s : St) (i : Nat) (w : World) (L : Live w k s) (hi : i < s.vs) (hm : s.m + 3 ≤ 1000000000) :
    Calls Try.prog 18 #[.pointer (some ⟨k.p, 0, none⟩), .int .i64 i] w (ApiOut k s w 3 (OkSem (oneS i) (fun ρ => ρ i))) := by
  refine (var_any k s i w L.ar L.ad hi hm).mono ?_
  intro e w' ho
  refine ho.mono (Nat.le_refl _) (fun nd' r hex o => ?_)
  obtain ⟨t, _, d⟩ := o (oneS i) _ _ _ _ (by simp [oneS]) .zero .one
  refine ⟨t, ?_⟩
  have e : (fun ρ : Env => ρ i) = fun ρ => if ρ i then true else false := by funext ρ; cases ρ i <;> simp
  rw [e]; exact d
end Go.Proofs.Ytgfjdkkfgclhjaa.Bd
