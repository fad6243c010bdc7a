/- ite. -/
import Derived.Test.YtgfjdkkfgclhjaaBE
namespace Go.Proofs.Ytgfjdkkfgclhjaa.Bd
open Go.RowKit Go.Proofs.Ytgfjdkkfgclhjaa Go.Proofs.Ytgfjdkkfgclhjaa.Lx Go.Maps

def NodeOut (k : Blk) (s : St) (w : World) (room : Nat) (ok : List Nd → Nat → Prop) (e : Ending) (w' : World) : Prop :=
  ∃ k' s' r, e = .returned (.int .i32 (r : Nat)) ∧ Ar w' k' s' ∧ Turn k k' w w' ∧ Up s s' ∧ s'.m + 2 ≤ s.m + room ∧ ok s'.nd r
def IteAt (n : Nat) : Prop := ∀ (S : Nat → Bool) (k : Blk) (s : St) (f g h tf tg th : Nat) (F G H : Env → Bool) (w : World), 256 - min tf (min tg th) < n → Ar w k s → Den S s.nd f tf F → Den S s.nd g tg G → Den S s.nd h th H → s.m + 2 ^ (nS S (min tf (min tg th)) + 1) ≤ 1000000000 →
  Calls Try.prog 40 #[.pointer (some ⟨k.p, 0, none⟩), .int .i32 f, .int .i32 g, .int .i32 h] w (NodeOut k s w (2 ^ (nS S (min tf (min tg th)) + 1)) (fun nd' r => OkIte s.nd nd' f g h r))

theorem Ar.below {w w' : World} {k : Blk} {s : St} (h : Ar w k s) (hb : Below w.heap.size w w') : Ar w' k s := by
  obtain ⟨fb, ft, H, I⟩ := h
  exact ⟨fb, ft, H.below hb, I⟩
/-- the five boxes that a part looks into -/
def Boxes (w : World) (p f g h v : Nat) (X : Nat → Nat) : Prop := w.cell? ⟨X 0, 0, none⟩ = some (.pointer (some ⟨p, 0, none⟩)) ∧ w.cell? ⟨X 1, 0, none⟩ = some (.int .i32 f) ∧ w.cell? ⟨X 2, 0, none⟩ = some (.int .i32 v) ∧ w.cell? ⟨X 3, 0, none⟩ = some (.int .i32 g) ∧ w.cell? ⟨X 4, 0, none⟩ = some (.int .i32 h)
theorem Boxes.below {w w' : World} {p f g h v : Nat} {X : Nat → Nat} (hx : Boxes w p f g h v X) (hb : Below w.heap.size w w') : Boxes w' p f g h v X :=
  ⟨cellB hb hx.1, cellB hb hx.2.1, cellB hb hx.2.2.1, cellB hb hx.2.2.2.1, cellB hb hx.2.2.2.2⟩

set_option maxHeartbeats 4000000 in
set_option maxRecDepth 100000 in
theorem part_any (n : Nat) (hI : IteAt n) (S : Nat → Bool) (k : Blk) (s : St) (f g h tf tg th v : Nat) (F G H : Env → Bool) (b : Bool) (w : World) (X0 X1 X2 X3 X4 : Nat) (hA : Ar w k s) (d1 : Den S s.nd f tf F) (d2 : Den S s.nd g tg G) (d3 : Den S s.nd h th H) (hv : v = min tf (min tg th)) (hv2 : v < 256) (hn : 256 - v ≤ n)
    (hm : s.m + 2 ^ (nS S (v + 1) + 1) ≤ 1000000000)
    (x0 : w.cell? ⟨X0, 0, none⟩ = some (.pointer (some ⟨k.p, 0, none⟩))) (x1 : w.cell? ⟨X1, 0, none⟩ = some (.int .i32 f)) (x2 : w.cell? ⟨X2, 0, none⟩ = some (.int .i32 v)) (x3 : w.cell? ⟨X3, 0, none⟩ = some (.int .i32 g)) (x4 : w.cell? ⟨X4, 0, none⟩ = some (.int .i32 h)) (y0 : ¬ fp k X0) (y1 : ¬ fp k X1) (y2 : ¬ fp k X2) (y3 : ¬ fp k X3) (y4 : ¬ fp k X4) :
    Calls Try.prog 57 #[.bool b, .pointer (some ⟨X0, 0, none⟩), .pointer (some ⟨X1, 0, none⟩), .pointer (some ⟨X2, 0, none⟩), .pointer (some ⟨X3, 0, none⟩), .pointer (some ⟨X4, 0, none⟩)] w (NodeOut k s w (2 ^ (nS S (v + 1) + 1)) (fun nd' r => OkIte s.nd nd' (cut s.nd f v b) (cut s.nd g v b) (cut s.nd h v b) r)) := by
  have hW : WF s.nd := by obtain ⟨_, _, _, I⟩ := hA; exact I.wf
  have hpow : 2 ≤ 2 ^ (nS S (v + 1) + 1) := by have := Nat.one_le_two_pow (n := nS S (v + 1)); rw [Nat.pow_succ]; omega
  have hm0 : s.m + 2 ≤ 2147483648 := by omega
  have hC : ∀ {x t : Nat} {E : Env → Bool}, Den S s.nd x t E → Hid (∀ w', Below w.heap.size w w' → Calls Try.prog 35 #[.pointer (some ⟨k.p, 0, none⟩), .int .i32 x, .int .i32 v, .bool b] w' fun e w'' => e = .returned (.int .i32 (cut s.nd x v b)) ∧ Below w'.heap.size w' w'') := fun d w' hb => cut_any k s _ v b w' (hA.below hb) (d.lt hW) (by omega) hm0
  have C1 := hC d1
  have C2 := hC d2
  have C3 := hC d3
  clear hC
  have hi : Hid (∀ w', Below w.heap.size w w' → Calls Try.prog 40 #[.pointer (some ⟨k.p, 0, none⟩), .int .i32 (cut s.nd f v b), .int .i32 (cut s.nd g v b), .int .i32 (cut s.nd h v b)] w' (NodeOut k s w (2 ^ (nS S (v + 1) + 1)) (fun nd' r => OkIte s.nd nd' (cut s.nd f v b) (cut s.nd g v b) (cut s.nd h v b) r))) := by
    intro w' hb
    obtain ⟨a1, ha1, q1⟩ := cut_den hW d1 (v := v) (by omega) hv2 b
    obtain ⟨a2, ha2, q2⟩ := cut_den hW d2 (v := v) (by omega) hv2 b
    obtain ⟨a3, ha3, q3⟩ := cut_den hW d3 (v := v) (by omega) hv2 b
    have hle := nS_le S (v := v + 1) (v' := min a1 (min a2 a3)) (by omega)
    have hp : 2 ^ (nS S (min a1 (min a2 a3)) + 1) ≤ 2 ^ (nS S (v + 1) + 1) := Nat.pow_le_pow_right (by omega) (by omega)
    refine (hI S k s _ _ _ a1 a2 a3 _ _ _ w' (by omega) (hA.below hb) q1 q2 q3 (by omega)).mono ?_
    rintro e w'' ⟨k', s', r, he, hA', hT, hU, hr, ho⟩
    exact ⟨k', s', r, he, hA', (Turn.below hb).trans hT, hU, by omega, ho⟩
  have HB0 : Below w.heap.size w w.drew := (Below.refl w.heap.size w).drew
  generalize cut s.nd f v b = cf at *
  generalize cut s.nd g v b = cg at *
  generalize cut s.nd h v b = ch at *
  clear hA d1 d2 d3 hI hW hpow hm0 hm hv hn
  go_enter Try.func57, Try.ntmps57
  go_wp2_with fail
  go_region_held3 (fun w' => w'.cell? ⟨X0, 0, none⟩ = some (.pointer (some ⟨k.p, 0, none⟩)) ∧ w'.cell? ⟨X1, 0, none⟩ = some (.int .i32 f) ∧ w'.cell? ⟨X2, 0, none⟩ = some (.int .i32 v) ∧ w'.cell? ⟨X3, 0, none⟩ = some (.int .i32 g) ∧ w'.cell? ⟨X4, 0, none⟩ = some (.int .i32 h))
    (first | exact ⟨x0, x1, x2, x3, x4⟩ | exact ⟨HR.out.2.1.cell x0 y0, HR.out.2.1.cell x1 y1, HR.out.2.1.cell x2 y2, HR.out.2.1.cell x3 y3, HR.out.2.1.cell x4 y4⟩ | exact ⟨cellB (by assumption) x0, cellB (by assumption) x1, cellB (by assumption) x2, cellB (by assumption) x3, cellB (by assumption) x4⟩)
    (first
      | (go_at_call 35; (first | with_reducible refine (C1.out _ (by assumption)).mono ?_ | with_reducible refine (C2.out _ (by assumption)).mono ?_ | with_reducible refine (C3.out _ (by assumption)).mono ?_); rintro e w1 ⟨rfl, hb⟩; have hb2 := below_wide (w := w) (by assumption) hb; clear hb)
      | (go_at_call 40; with_reducible refine (hi.out _ (by assumption)).mono ?_; intro e w1 hh; unfold NodeOut at hh; obtain ⟨k', s', r, he, hR⟩ := hh; subst he; have HR := hide hR; clear hR))
  all_goals (
    go_wp2_with fail
    go_ret
    exact ⟨k', s', r, rfl, HR.out⟩)
end Go.Proofs.Ytgfjdkkfgclhjaa.Bd
