/- Small arenas: just which nodes are held. -/
import Derived.Test.YtgfjdkkfgclhjaaCK
namespace Go.Proofs.Ytgfjdkkfgclhjaa.Bd
open Go.RowKit Go.Proofs.Ytgfjdkkfgclhjaa Go.Proofs.Ytgfjdkkfgclhjaa.Lx Go.Maps

theorem vis_stop {nd : List Nd} {he : Int → Bool} {n : Nat} {fr : List Nat} {f : Nat} (h : f < 2 ∨ f ∈ fr ∨ he f = true) : vis nd he n fr f = fr := by
  cases n with
  | zero => rfl
  | succ n => unfold vis; rw [if_pos h]
theorem fresh_held {s : St} {f : Nat} (h : s.he f = true) : fresh s f = [] := vis_stop (.inr (.inr h))
theorem fresh_one {s : St} {f v lo hi : Nat} (h2 : 2 ≤ f) (hh : s.he f = false) (hr : s.nd[f]? = some (v, lo, hi)) (hl : lo < 2 ∨ s.he lo = true) (hi' : hi < 2 ∨ s.he hi = true) : fresh s f = [f] := by
  unfold fresh
  have hc : ¬ (f < 2 ∨ f ∈ ([] : List Nat) ∨ s.he f = true) := by
    rintro (h | h | h)
    · omega
    · cases h
    · rw [hh] at h; cases h
  conv => lhs; unfold vis
  rw [if_neg hc, hr]
  simp only [List.nil_append]
  rw [vis_stop (hl.imp id .inr), vis_stop (hi'.imp id .inr)]
theorem fresh_some {s : St} (hw : WF s.nd) {f : Nat} (hf : f < s.nd.length) (h2 : 2 ≤ f) (hh : s.he f = false) : 1 ≤ (fresh s f).length := by
  rcases (vis_ok hw (he := s.he) (f + 1) [] f (by omega) hf).me with h | h | h
  · omega
  · exact List.length_pos_of_mem h
  · rw [hh] at h; cases h
def FullOut (k : Blk) (s : St) (w : World) (R : Nat) (e : Ending) (w' : World) : Prop :=
  ∃ (k' : Blk) (s' : St), e = .returned (.tuple #[.int .i64 0, .int .i64 3]) ∧ Live w' k' s' ∧ Turn k k' w w' ∧ Ext s s' ∧ s'.m + 2 ≤ s.m + R ∧ s'.hn = s.hn ∧ s'.gn = s.gn ∧ s'.he = s.he
def OneOut (k : Blk) (s : St) (w : World) (R : Nat) (S : Nat → Bool) (G : Env → Bool) (e : Ending) (w' : World) : Prop :=
  ∃ (k' : Blk) (s' : St) (r : Nat), e = .returned (.tuple #[.int .i64 (r : Nat), .int .i64 0]) ∧ Live w' k' s' ∧ Turn k k' w w' ∧ Ext s s' ∧ s'.m + 2 ≤ s.m + R ∧ s'.hn = s.hn + 1 ∧ s'.gn = s.gn + 1 ∧ Nod s' r S G ∧ ∀ x : Nat, s'.he x = true ↔ x = r ∨ s.he x = true
def SameOut (k : Blk) (s : St) (w : World) (R : Nat) (S : Nat → Bool) (G : Env → Bool) (e : Ending) (w' : World) : Prop :=
  ∃ (k' : Blk) (s' : St) (r : Nat), e = .returned (.tuple #[.int .i64 (r : Nat), .int .i64 0]) ∧ Live w' k' s' ∧ Turn k k' w w' ∧ Ext s s' ∧ s'.m + 2 ≤ s.m + R ∧ s'.hn = s.hn ∧ s'.gn = s.gn + 1 ∧ Nod s' r S G ∧ ∀ x : Nat, s'.he x = true ↔ s.he x = true
theorem live_up {k : Blk} {s s1 : St} {w w' : World} (L : Live w k s) (U : Up s s1) {k' : Blk} (hA : Ar w' k' s1) : Live w' k' s1 ∧ Ext s s1 := by
  have had := L.ad
  refine ⟨⟨hA, ⟨by rw [U.ms]; exact had.ms, by rw [U.hn]; exact had.hn, by rw [U.gn]; exact had.gn, by rw [U.vs]; exact had.vs⟩, by rw [U.gi]; exact L.g0, by rw [U.gi]; exact L.g1⟩, ⟨U.vs, U.ms, fun x hx => by rw [U.gi]; exact hx, U.nd⟩⟩
theorem live_give {k : Blk} {s s1 : St} {w w' : World} (L : Live w k s) (U : Up s s1) {k' : Blk} {r : Nat} (hA : Ar w' k' (s1.give r)) (hgn : s.gn + 1 ≤ 900000000) (hB : s.hn + (fresh s1 r).length ≤ s.ms) : Live w' k' (s1.give r) ∧ Ext s (s1.give r) ∧ (s1.give r).gi r = true := by
  have had := L.ad
  refine ⟨⟨hA, ⟨?_, ?_, ?_, ?_⟩, ?_, ?_⟩, ⟨U.vs, U.ms, fun x hx => ?_, U.nd⟩, ?_⟩
  · show s1.ms ≤ _; rw [U.ms]; exact had.ms
  · show s1.hn + (fresh s1 r).length ≤ _; rw [U.hn]; have := had.ms; omega
  · show s1.gn + 1 ≤ _; rw [U.gn]; omega
  · show s1.vs ≤ _; rw [U.vs]; exact had.vs
  · show (decide ((0 : Int) = r) || s1.gi 0) = true; rw [U.gi, L.g0]; simp
  · show (decide ((1 : Int) = r) || s1.gi 1) = true; rw [U.gi, L.g1]; simp
  · show (decide (x = r) || s1.gi x) = true; rw [U.gi, hx]; simp
  · show (decide ((r : Int) = r) || s1.gi r) = true; simp
/-- a node with nothing fresh beneath it -/
def OneNew (s : St) (S : Nat → Bool) (G : Env → Bool) : Prop := ∀ (nd' : List Nd) (r t : Nat), (∃ ex, nd' = s.nd ++ ex) → WF nd' → Den S nd' r t G → 2 ≤ r ∧ s.he r = false ∧ ∃ v lo hi, nd'[r]? = some (v, lo, hi) ∧ (lo < 2 ∨ s.he lo = true) ∧ (hi < 2 ∨ s.he hi = true)
theorem one_of {k : Blk} {s : St} {w w' : World} {R : Nat} {S : Nat → Bool} {G : Env → Bool} {e : Ending} (h : ApiOut k s w R (OkSem S G) e w') (L : Live w k s) (hgn : s.gn + 1 ≤ 900000000) (ho : OneNew s S G) (hB : s.hn + 1 ≤ s.ms) : OneOut k s w R S G e w' := by
  obtain ⟨k', s1, r, U, hm, ⟨t, d⟩, T, hw, hr, h⟩ := h
  obtain ⟨h2, hh, v, lo, hi, hrow, hl, hi'⟩ := ho s1.nd r t U.nd hw d
  have hf : fresh s1 r = [r] := fresh_one h2 (by rw [U.he]; exact hh) hrow (by rw [U.he]; exact hl) (by rw [U.he]; exact hi')
  rw [hf] at h
  simp only [List.length_singleton] at h
  rcases h with ⟨h1, _⟩ | ⟨h1, he, hA⟩
  · omega
  · obtain ⟨a, b, c⟩ := live_give L U hA hgn (by rw [hf]; exact hB)
    refine ⟨k', _, r, he, a, T, b, hm, ?_, ?_, ⟨c, t, d⟩, fun x => ?_⟩
    · show s1.hn + (fresh s1 r).length = _; rw [hf, U.hn]; rfl
    · show s1.gn + 1 = _; rw [U.gn]
    · show (decide (0 ≤ (x : Int) ∧ (x : Int).toNat ∈ fresh s1 r) || s1.he x) = true ↔ _
      rw [hf, U.he]
      simp
theorem full_of {k : Blk} {s : St} {w w' : World} {R : Nat} {S : Nat → Bool} {G : Env → Bool} {e : Ending} (h : ApiOut k s w R (OkSem S G) e w') (L : Live w k s) (ho : ∀ (nd' : List Nd) (r t : Nat), (∃ ex, nd' = s.nd ++ ex) → WF nd' → Den S nd' r t G → 2 ≤ r ∧ s.he r = false) (hB : s.ms ≤ s.hn) : FullOut k s w R e w' := by
  obtain ⟨k', s1, r, U, hm, ⟨t, d⟩, T, hw, hr, h⟩ := h
  obtain ⟨h2, hh⟩ := ho s1.nd r t U.nd hw d
  have hf := fresh_some hw hr h2 (by rw [U.he]; exact hh)
  rcases h with ⟨h1, he, hA⟩ | ⟨h1, _⟩
  · obtain ⟨a, b⟩ := live_up L U hA
    exact ⟨k', s1, he, a, T, b, hm, U.hn, U.gn, U.he⟩
  · omega
theorem same_of {k : Blk} {s : St} {w w' : World} {R : Nat} {S : Nat → Bool} {G : Env → Bool} {e : Ending} (h : ApiOut k s w R (OkSem S G) e w') (L : Live w k s) (hgn : s.gn + 1 ≤ 900000000) (ho : ∀ (nd' : List Nd) (r t : Nat), (∃ ex, nd' = s.nd ++ ex) → WF nd' → Den S nd' r t G → s.he r = true) (hB : s.hn ≤ s.ms) : SameOut k s w R S G e w' := by
  obtain ⟨k', s1, r, U, hm, ⟨t, d⟩, T, hw, hr, h⟩ := h
  have hh := ho s1.nd r t U.nd hw d
  have hf : fresh s1 r = [] := fresh_held (by rw [U.he]; exact hh)
  rw [hf] at h
  rcases h with ⟨h1, _⟩ | ⟨h1, he, hA⟩
  · simp at h1; omega
  · obtain ⟨a, b, c⟩ := live_give L U hA hgn (by rw [hf]; simpa using hB)
    refine ⟨k', _, r, he, a, T, b, hm, ?_, ?_, ⟨c, t, d⟩, fun x => ?_⟩
    · show s1.hn + (fresh s1 r).length = _; rw [hf, U.hn]; rfl
    · show s1.gn + 1 = _; rw [U.gn]
    · show (decide (0 ≤ (x : Int) ∧ (x : Int).toNat ∈ fresh s1 r) || s1.he x) = true ↔ _
      rw [hf, U.he]
      simp
/-- the row of a function whose first variable is known -/
theorem row_of {S : Nat → Bool} {nd : List Nd} (hw : WF nd) {r t v : Nat} {F : Env → Bool} (d : Den S nd r t F) (h : Hangs F v) (hmin : ∀ x, x < v → ¬ Hangs F x) : 2 ≤ r ∧ ∃ lo hi tl th, nd[r]? = some (v, lo, hi) ∧ Den S nd lo tl (fun ρ => F (upd ρ v false)) ∧ Den S nd hi th (fun ρ => F (upd ρ v true)) := by
  have h2 : 2 ≤ r := by
    rcases Nat.lt_or_ge r 2 with h' | h'
    · obtain ⟨_, hF⟩ := d.ends h'
      obtain ⟨ρ, hρ⟩ := h
      rw [hF, hF] at hρ
      exact absurd rfl hρ
    · exact h'
  refine ⟨h2, ?_⟩
  have ht := d.hangs_top hw.once h2
  have hle := (d.hangs_in h).1
  have e : t = v := by
    rcases Nat.lt_or_ge t v with h' | h'
    · exact absurd ht (hmin t h')
    · omega
  subst e
  obtain ⟨lo, hi, tl, th, Fl, Fh, hr, r1, r2, r3, r4, r5, r6, r7, dl, dh, rfl⟩ := d.row h2
  refine ⟨lo, hi, tl, th, hr, ?_, ?_⟩
  · have : (fun ρ => (fun ρ : Env => if ρ t then Fh ρ else Fl ρ) (upd ρ t false)) = Fl := by
      funext ρ
      simp only [upd_same, Bool.false_eq_true, if_false]
      exact dl.free r4 ρ false
    rw [this]; exact dl
  · have : (fun ρ => (fun ρ : Env => if ρ t then Fh ρ else Fl ρ) (upd ρ t true)) = Fh := by
      funext ρ
      simp only [upd_same, if_true]
      exact dh.free r5 ρ true
    rw [this]; exact dh
theorem var_hangs (i : Nat) : Hangs (fun ρ => ρ i) i := ⟨fun _ => false, by simp [upd]⟩
theorem var_only {i x : Nat} (h : Hangs (fun ρ : Env => ρ i) x) : x = i := by
  obtain ⟨ρ, hρ⟩ := h
  by_cases e : x = i
  · exact e
  · simp only [upd_other _ _ (Ne.symm e)] at hρ
    exact absurd rfl hρ
/-- a variable that is not held yet -/
theorem var_new {s : St} {i : Nat} (hn : ∀ x : Nat, s.he x = true → ∃ S t G, Den S s.nd x t G ∧ G ≠ fun ρ => ρ i) : OneNew s (oneS i) (fun ρ => ρ i) := by
  intro nd' r t hex hw d
  obtain ⟨h2, lo, hi, tl, th, hr, dl, dh⟩ := row_of hw d (var_hangs i) (fun x hx h => by have := var_only h; omega)
  have e0 : (fun ρ : Env => (upd ρ i false) i) = fun _ => false := by funext ρ; simp [upd]
  have e1 : (fun ρ : Env => (upd ρ i true) i) = fun _ => true := by funext ρ; simp [upd]
  rw [e0] at dl
  rw [e1] at dh
  have hl := dl.eq hw.once (Den.zero (S := oneS i))
  have hh := dh.eq hw.once (Den.one (S := oneS i))
  refine ⟨h2, ?_, i, lo, hi, hr, .inl (by omega), .inl (by omega)⟩
  cases hc : s.he r with
  | false => rfl
  | true =>
    obtain ⟨S, t', G, d', hG⟩ := hn r hc
    obtain ⟨ex, rfl⟩ := hex
    exact absurd ((d'.append (nx := ex)).det2 d).2 hG
end Go.Proofs.Ytgfjdkkfgclhjaa.Bd
