/- ite: what it answers, in plain words. No program is in sight. -/
import Derived.Test.YtgfjdkkfgclhjaaBD
namespace Go.Proofs.Ytgfjdkkfgclhjaa.Bd

variable {nd : List Nd}
theorem Den.first {S : Nat → Bool} {i t : Nat} {F : Env → Bool} (h : Den S nd i t F) (ht : t < 256) : S t = true := by
  cases h with
  | zero => omega
  | one => omega
  | node h h2 hl hh hne h1 h3 hv hS dl dh => exact hS
theorem ite_one (hw : WF nd) {g h : Nat} : OkIte nd nd 1 g h g := by
  intro S tf tg th F G H d1 d2 d3
  obtain ⟨rfl, hF⟩ := d1.ends (by omega)
  refine ⟨tg, by omega, ?_⟩
  have e : (fun ρ => if F ρ then G ρ else H ρ) = G := by
    funext ρ
    rw [hF]
    simp
  rw [e]; exact d2
theorem ite_zero {g h : Nat} : OkIte nd nd 0 g h h := by
  intro S tf tg th F G H d1 d2 d3
  obtain ⟨rfl, hF⟩ := d1.ends (by omega)
  refine ⟨th, by omega, ?_⟩
  have e : (fun ρ => if F ρ then G ρ else H ρ) = H := by
    funext ρ
    rw [hF]
    simp
  rw [e]; exact d3
theorem ite_same {f g : Nat} : OkIte nd nd f g g g := by
  intro S tf tg th F G H d1 d2 d3
  obtain ⟨rfl, rfl⟩ := d2.det2 d3
  refine ⟨tg, by omega, ?_⟩
  have e : (fun ρ => if F ρ then G ρ else G ρ) = G := by funext ρ; simp
  rw [e]; exact d2
theorem ite_self {f : Nat} : OkIte nd nd f 1 0 f := by
  intro S tf tg th F G H d1 d2 d3
  obtain ⟨rfl, hG⟩ := d2.ends (by omega)
  obtain ⟨rfl, hH⟩ := d3.ends (by omega)
  have ht := d1.top.1
  refine ⟨tf, by omega, ?_⟩
  have e : (fun ρ => if F ρ then G ρ else H ρ) = F := by
    funext ρ
    rw [hG, hH]
    cases F ρ <;> simp
  rw [e]; exact d1
/-- the halves by v put together -/
theorem ite_halves {nd nd1 nd2 nd3 : List Nd} (hw : WF nd) {f g h lo hi r v tf0 tg0 th0 : Nat} {S0 : Nat → Bool} {F0 G0 H0 : Env → Bool} (d1 : Den S0 nd f tf0 F0) (d2 : Den S0 nd g tg0 G0) (d3 : Den S0 nd h th0 H0) (hv : v = min tf0 (min tg0 th0)) (hv2 : v < 256)
    (e1 : ∃ ex, nd1 = nd ++ ex) (e2 : ∃ ex, nd2 = nd1 ++ ex) (hlo : OkIte nd nd1 (cut nd f v false) (cut nd g v false) (cut nd h v false) lo) (hhi : OkIte nd1 nd2 (cut nd f v true) (cut nd g v true) (cut nd h v true) hi) (hmk : OkMk nd2 nd3 v lo hi r) : OkIte nd nd3 f g h r := by
  intro S tf tg th F G H c1 c2 c3
  obtain ⟨rfl, rfl⟩ := d1.det2 c1
  obtain ⟨rfl, rfl⟩ := d2.det2 c2
  obtain ⟨rfl, rfl⟩ := d3.det2 c3
  obtain ⟨ex1, rfl⟩ := e1
  obtain ⟨ex2, rfl⟩ := e2
  have hS : S v = true := by
    have : v = tf0 ∨ v = tg0 ∨ v = th0 := by omega
    rcases this with e | e | e
    · rw [e]; exact c1.first (by omega)
    · rw [e]; exact c2.first (by omega)
    · rw [e]; exact c3.first (by omega)
  obtain ⟨a1, ha1, q1⟩ := cut_den hw c1 (v := v) (by omega) hv2 false
  obtain ⟨a2, ha2, q2⟩ := cut_den hw c2 (v := v) (by omega) hv2 false
  obtain ⟨a3, ha3, q3⟩ := cut_den hw c3 (v := v) (by omega) hv2 false
  obtain ⟨b1, hb1, p1⟩ := cut_den hw c1 (v := v) (by omega) hv2 true
  obtain ⟨b2, hb2, p2⟩ := cut_den hw c2 (v := v) (by omega) hv2 true
  obtain ⟨b3, hb3, p3⟩ := cut_den hw c3 (v := v) (by omega) hv2 true
  obtain ⟨tl, _, dl⟩ := hlo S _ _ _ _ _ _ q1 q2 q3
  obtain ⟨tt, _, dh⟩ := hhi S _ _ _ _ _ _ p1.append p2.append p3.append
  obtain ⟨t, ht, d⟩ := hmk S _ _ _ _ hS dl.append dh
  refine ⟨t, by omega, ?_⟩
  have e : (fun ρ : Env => if ρ v then (if F0 (upd ρ v true) then G0 (upd ρ v true) else H0 (upd ρ v true)) else (if F0 (upd ρ v false) then G0 (upd ρ v false) else H0 (upd ρ v false))) = fun ρ => if F0 ρ then G0 ρ else H0 ρ := by
    funext ρ
    rw [shannon F0 v ρ, shannon G0 v ρ, shannon H0 v ρ]
    cases ρ v <;> simp
  rw [e] at d
  exact d
end Go.Proofs.Ytgfjdkkfgclhjaa.Bd
