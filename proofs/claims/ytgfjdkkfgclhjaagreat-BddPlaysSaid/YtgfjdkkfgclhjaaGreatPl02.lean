/- What the claim leans on, part 2 of 13: BE BF BJ BK BH BG BL BM BN BO BP. -/
import Derived.Laws.Cover1
import Derived.Laws.EntriesVeiled
import Derived.Test.YtgfjdkkfgclhjaaGreatPl01
/- ite: what it answers, in plain words. No program is in sight. -/
namespace Go.Proofs.YtgfjdkkfgclhjaaGreat.Bd

variable {nd : List Nd}
theorem Den.first {S : Nat → Bool} {i t : Nat} {F : Env → Bool} (h : Den S nd i t F) (ht : t < 256) : S t = true := by
  cases h with
  | zero => omega
  | one => omega
  | node h h2 hl hh hne h1 h3 hv hS dl dh => exact hS
theorem ite_one (hw : WF nd) {g h : Nat} : OkIte nd nd 1 g h g := by
  intro S tf tg th F G H d1 d2 d3
  obtain ⟨rfl, hF⟩ := d1.ends (by omega)
  refine ⟨tg, by omega, ?_⟩
  have e : (fun ρ => if F ρ then G ρ else H ρ) = G := by
    funext ρ
    rw [hF]
    simp
  rw [e]; exact d2
theorem ite_zero {g h : Nat} : OkIte nd nd 0 g h h := by
  intro S tf tg th F G H d1 d2 d3
  obtain ⟨rfl, hF⟩ := d1.ends (by omega)
  refine ⟨th, by omega, ?_⟩
  have e : (fun ρ => if F ρ then G ρ else H ρ) = H := by
    funext ρ
    rw [hF]
    simp
  rw [e]; exact d3
theorem ite_same {f g : Nat} : OkIte nd nd f g g g := by
  intro S tf tg th F G H d1 d2 d3
  obtain ⟨rfl, rfl⟩ := d2.det2 d3
  refine ⟨tg, by omega, ?_⟩
  have e : (fun ρ => if F ρ then G ρ else G ρ) = G := by funext ρ; simp
  rw [e]; exact d2
theorem ite_self {f : Nat} : OkIte nd nd f 1 0 f := by
  intro S tf tg th F G H d1 d2 d3
  obtain ⟨rfl, hG⟩ := d2.ends (by omega)
  obtain ⟨rfl, hH⟩ := d3.ends (by omega)
  have ht := d1.top.1
  refine ⟨tf, by omega, ?_⟩
  have e : (fun ρ => if F ρ then G ρ else H ρ) = F := by
    funext ρ
    rw [hG, hH]
    cases F ρ <;> simp
  rw [e]; exact d1
/-- the halves by v put together -/
theorem ite_halves {nd nd1 nd2 nd3 : List Nd} (hw : WF nd) {f g h lo hi r v tf0 tg0 th0 : Nat} {S0 : Nat → Bool} {F0 G0 H0 : Env → Bool} (d1 : Den S0 nd f tf0 F0) (d2 : Den S0 nd g tg0 G0) (d3 : Den S0 nd h th0 H0) (hv : v = min tf0 (min tg0 th0)) (hv2 : v < 256)
    (e1 : ∃ ex, nd1 = nd ++ ex) (e2 : ∃ ex, nd2 = nd1 ++ ex) (hlo : OkIte nd nd1 (cut nd f v false) (cut nd g v false) (cut nd h v false) lo) (hhi : OkIte nd1 nd2 (cut nd f v true) (cut nd g v true) (cut nd h v true) hi) (hmk : OkMk nd2 nd3 v lo hi r) : OkIte nd nd3 f g h r := by
  intro S tf tg th F G H c1 c2 c3
  obtain ⟨rfl, rfl⟩ := d1.det2 c1
  obtain ⟨rfl, rfl⟩ := d2.det2 c2
  obtain ⟨rfl, rfl⟩ := d3.det2 c3
  obtain ⟨ex1, rfl⟩ := e1
  obtain ⟨ex2, rfl⟩ := e2
  have hS : S v = true := by
    have : v = tf0 ∨ v = tg0 ∨ v = th0 := by omega
    rcases this with e | e | e
    · rw [e]; exact c1.first (by omega)
    · rw [e]; exact c2.first (by omega)
    · rw [e]; exact c3.first (by omega)
  obtain ⟨a1, ha1, q1⟩ := cut_den hw c1 (v := v) (by omega) hv2 false
  obtain ⟨a2, ha2, q2⟩ := cut_den hw c2 (v := v) (by omega) hv2 false
  obtain ⟨a3, ha3, q3⟩ := cut_den hw c3 (v := v) (by omega) hv2 false
  obtain ⟨b1, hb1, p1⟩ := cut_den hw c1 (v := v) (by omega) hv2 true
  obtain ⟨b2, hb2, p2⟩ := cut_den hw c2 (v := v) (by omega) hv2 true
  obtain ⟨b3, hb3, p3⟩ := cut_den hw c3 (v := v) (by omega) hv2 true
  obtain ⟨tl, _, dl⟩ := hlo S _ _ _ _ _ _ q1 q2 q3
  obtain ⟨tt, _, dh⟩ := hhi S _ _ _ _ _ _ p1.append p2.append p3.append
  obtain ⟨t, ht, d⟩ := hmk S _ _ _ _ hS dl.append dh
  refine ⟨t, by omega, ?_⟩
  have e : (fun ρ : Env => if ρ v then (if F0 (upd ρ v true) then G0 (upd ρ v true) else H0 (upd ρ v true)) else (if F0 (upd ρ v false) then G0 (upd ρ v false) else H0 (upd ρ v false))) = fun ρ => if F0 ρ then G0 ρ else H0 ρ := by
    funext ρ
    rw [shannon F0 v ρ, shannon G0 v ρ, shannon H0 v ρ]
    cases ρ v <;> simp
  rw [e] at d
  exact d
end Go.Proofs.YtgfjdkkfgclhjaaGreat.Bd
/- ite. -/
namespace Go.Proofs.YtgfjdkkfgclhjaaGreat.Bd
open Go.RowKit Go.Proofs.YtgfjdkkfgclhjaaGreat Go.Proofs.YtgfjdkkfgclhjaaGreat.Lx Go.Maps

def NodeOut (k : Blk) (s : St) (w : World) (room : Nat) (ok : List Nd → Nat → Prop) (e : Ending) (w' : World) : Prop :=
  ∃ k' s' r, e = .returned (.int .i32 (r : Nat)) ∧ Ar w' k' s' ∧ Turn k k' w w' ∧ Up s s' ∧ s'.m + 2 ≤ s.m + room ∧ ok s'.nd r
def IteAt (n : Nat) : Prop := ∀ (S : Nat → Bool) (k : Blk) (s : St) (f g h tf tg th : Nat) (F G H : Env → Bool) (w : World), 256 - min tf (min tg th) < n → Ar w k s → Den S s.nd f tf F → Den S s.nd g tg G → Den S s.nd h th H → s.m + 2 ^ (nS S (min tf (min tg th)) + 1) ≤ 1000000000 →
  Calls Tryz.prog 73 #[.pointer (some ⟨k.p, 0, none⟩), .int .i32 f, .int .i32 g, .int .i32 h] w (NodeOut k s w (2 ^ (nS S (min tf (min tg th)) + 1)) (fun nd' r => OkIte s.nd nd' f g h r))

theorem Ar.below {w w' : World} {k : Blk} {s : St} (h : Ar w k s) (hb : Below w.heap.size w w') : Ar w' k s := by
  obtain ⟨fb, ft, H, I⟩ := h
  exact ⟨fb, ft, H.below hb, I⟩
/-- the five boxes that a part looks into -/
def Boxes (w : World) (p f g h v : Nat) (X : Nat → Nat) : Prop := w.cell? ⟨X 0, 0, none⟩ = some (.pointer (some ⟨p, 0, none⟩)) ∧ w.cell? ⟨X 1, 0, none⟩ = some (.int .i32 f) ∧ w.cell? ⟨X 2, 0, none⟩ = some (.int .i32 v) ∧ w.cell? ⟨X 3, 0, none⟩ = some (.int .i32 g) ∧ w.cell? ⟨X 4, 0, none⟩ = some (.int .i32 h)
theorem Boxes.below {w w' : World} {p f g h v : Nat} {X : Nat → Nat} (hx : Boxes w p f g h v X) (hb : Below w.heap.size w w') : Boxes w' p f g h v X :=
  ⟨cellB hb hx.1, cellB hb hx.2.1, cellB hb hx.2.2.1, cellB hb hx.2.2.2.1, cellB hb hx.2.2.2.2⟩

set_option maxHeartbeats 4000000 in
set_option maxRecDepth 100000 in
theorem part_any (n : Nat) (hI : IteAt n) (S : Nat → Bool) (k : Blk) (s : St) (f g h tf tg th v : Nat) (F G H : Env → Bool) (b : Bool) (w : World) (X0 X1 X2 X3 X4 : Nat) (hA : Ar w k s) (d1 : Den S s.nd f tf F) (d2 : Den S s.nd g tg G) (d3 : Den S s.nd h th H) (hv : v = min tf (min tg th)) (hv2 : v < 256) (hn : 256 - v ≤ n)
    (hm : s.m + 2 ^ (nS S (v + 1) + 1) ≤ 1000000000)
    (x0 : w.cell? ⟨X0, 0, none⟩ = some (.pointer (some ⟨k.p, 0, none⟩))) (x1 : w.cell? ⟨X1, 0, none⟩ = some (.int .i32 f)) (x2 : w.cell? ⟨X2, 0, none⟩ = some (.int .i32 v)) (x3 : w.cell? ⟨X3, 0, none⟩ = some (.int .i32 g)) (x4 : w.cell? ⟨X4, 0, none⟩ = some (.int .i32 h)) (y0 : ¬ fp k X0) (y1 : ¬ fp k X1) (y2 : ¬ fp k X2) (y3 : ¬ fp k X3) (y4 : ¬ fp k X4) :
    Calls Tryz.prog 94 #[.bool b, .pointer (some ⟨X0, 0, none⟩), .pointer (some ⟨X1, 0, none⟩), .pointer (some ⟨X2, 0, none⟩), .pointer (some ⟨X3, 0, none⟩), .pointer (some ⟨X4, 0, none⟩)] w (NodeOut k s w (2 ^ (nS S (v + 1) + 1)) (fun nd' r => OkIte s.nd nd' (cut s.nd f v b) (cut s.nd g v b) (cut s.nd h v b) r)) := by
  have hW : WF s.nd := by obtain ⟨_, _, _, I⟩ := hA; exact I.wf
  have hpow : 2 ≤ 2 ^ (nS S (v + 1) + 1) := by have := Nat.one_le_two_pow (n := nS S (v + 1)); rw [Nat.pow_succ]; omega
  have hm0 : s.m + 2 ≤ 2147483648 := by omega
  have hC : ∀ {x t : Nat} {E : Env → Bool}, Den S s.nd x t E → Hid (∀ w', Below w.heap.size w w' → Calls Tryz.prog 36 #[.pointer (some ⟨k.p, 0, none⟩), .int .i32 x, .int .i32 v, .bool b] w' fun e w'' => e = .returned (.int .i32 (cut s.nd x v b)) ∧ Below w'.heap.size w' w'') := fun d w' hb => cut_any k s _ v b w' (hA.below hb) (d.lt hW) (by omega) hm0
  have C1 := hC d1
  have C2 := hC d2
  have C3 := hC d3
  clear hC
  have hi : Hid (∀ w', Below w.heap.size w w' → Calls Tryz.prog 73 #[.pointer (some ⟨k.p, 0, none⟩), .int .i32 (cut s.nd f v b), .int .i32 (cut s.nd g v b), .int .i32 (cut s.nd h v b)] w' (NodeOut k s w (2 ^ (nS S (v + 1) + 1)) (fun nd' r => OkIte s.nd nd' (cut s.nd f v b) (cut s.nd g v b) (cut s.nd h v b) r))) := by
    intro w' hb
    obtain ⟨a1, ha1, q1⟩ := cut_den hW d1 (v := v) (by omega) hv2 b
    obtain ⟨a2, ha2, q2⟩ := cut_den hW d2 (v := v) (by omega) hv2 b
    obtain ⟨a3, ha3, q3⟩ := cut_den hW d3 (v := v) (by omega) hv2 b
    have hle := nS_le S (v := v + 1) (v' := min a1 (min a2 a3)) (by omega)
    have hp : 2 ^ (nS S (min a1 (min a2 a3)) + 1) ≤ 2 ^ (nS S (v + 1) + 1) := Nat.pow_le_pow_right (by omega) (by omega)
    refine (hI S k s _ _ _ a1 a2 a3 _ _ _ w' (by omega) (hA.below hb) q1 q2 q3 (by omega)).mono ?_
    rintro e w'' ⟨k', s', r, he, hA', hT, hU, hr, ho⟩
    exact ⟨k', s', r, he, hA', (Turn.below hb).trans hT, hU, by omega, ho⟩
  have HB0 : Below w.heap.size w w.drew := (Below.refl w.heap.size w).drew
  generalize cut s.nd f v b = cf at *
  generalize cut s.nd g v b = cg at *
  generalize cut s.nd h v b = ch at *
  clear hA d1 d2 d3 hI hW hpow hm0 hm hv hn
  go_enter Tryz.func94, Tryz.ntmps94
  go_wp2_with fail
  go_region_held3 (fun w' => w'.cell? ⟨X0, 0, none⟩ = some (.pointer (some ⟨k.p, 0, none⟩)) ∧ w'.cell? ⟨X1, 0, none⟩ = some (.int .i32 f) ∧ w'.cell? ⟨X2, 0, none⟩ = some (.int .i32 v) ∧ w'.cell? ⟨X3, 0, none⟩ = some (.int .i32 g) ∧ w'.cell? ⟨X4, 0, none⟩ = some (.int .i32 h))
    (first | exact ⟨x0, x1, x2, x3, x4⟩ | exact ⟨HR.out.2.1.cell x0 y0, HR.out.2.1.cell x1 y1, HR.out.2.1.cell x2 y2, HR.out.2.1.cell x3 y3, HR.out.2.1.cell x4 y4⟩ | exact ⟨cellB (by assumption) x0, cellB (by assumption) x1, cellB (by assumption) x2, cellB (by assumption) x3, cellB (by assumption) x4⟩)
    (first
      | (go_at_call 36; (first | with_reducible refine (C1.out _ (by assumption)).mono ?_ | with_reducible refine (C2.out _ (by assumption)).mono ?_ | with_reducible refine (C3.out _ (by assumption)).mono ?_); rintro e w1 ⟨rfl, hb⟩; have hb2 := below_wide (w := w) (by assumption) hb; clear hb)
      | (go_at_call 73; with_reducible refine (hi.out _ (by assumption)).mono ?_; intro e w1 hh; unfold NodeOut at hh; obtain ⟨k', s', r, he, hR⟩ := hh; subst he; have HR := hide hR; clear hR))
  all_goals (
    go_wp2_with fail
    go_ret
    exact ⟨k', s', r, rfl, HR.out⟩)
end Go.Proofs.YtgfjdkkfgclhjaaGreat.Bd
/- give: an answer is handed out, if there is room. -/
namespace Go.Proofs.YtgfjdkkfgclhjaaGreat.Bd
open Go.RowKit Go.Proofs.YtgfjdkkfgclhjaaGreat Go.Proofs.YtgfjdkkfgclhjaaGreat.Lx Go.Maps

/-- the nodes beneath f that are not held yet -/
def fresh (s : St) (f : Nat) : List Nat := vis s.nd s.he (f + 1) [] f
def St.hold (s : St) (fr : List Nat) : St := { s with he := fun x => decide (0 ≤ x ∧ x.toNat ∈ fr) || s.he x, hn := s.hn + fr.length }
def St.give (s : St) (f : Nat) : St := { s.hold (fresh s f) with gi := fun x => decide (x = (f : Int)) || s.gi x, gn := s.gn + 1 }
def GiveOut (k : Blk) (s : St) (f : Nat) (w : World) (e : Ending) (w' : World) : Prop :=
  (s.ms < s.hn + (fresh s f).length ∧ e = .returned (.tuple #[.int .i64 0, .int .i64 3]) ∧ Ar w' k s ∧ Turn k k w w') ∨
  (s.hn + (fresh s f).length ≤ s.ms ∧ e = .returned (.tuple #[.int .i64 f, .int .i64 0]) ∧ Ar w' k (s.give f) ∧ Turn k k w w')
theorem hold_step {s : St} {fr : List Nat} {i x : Nat} (hx : fr[i]? = some x) : (fun y : Int => decide (y = (x : Int)) || (s.hold (fr.take i)).he y) = (s.hold (fr.take (i + 1))).he := by
  funext y
  unfold St.hold
  simp only
  rw [← Bool.or_assoc, ← Bool.decide_or]
  congr 2
  rw [List.take_add_one, hx]
  simp only [Option.toList_some, List.mem_append, List.mem_singleton, eq_iff_iff]
  constructor
  · rintro (h | ⟨h1, h2⟩)
    · subst h; exact ⟨by omega, .inr (by omega)⟩
    · exact ⟨h1, .inl h2⟩
  · rintro ⟨h1, h2 | h2⟩
    · exact .inr ⟨h1, h2⟩
    · left; omega
theorem hold_zero (s : St) : s.hold [] = s := by
  unfold St.hold
  have : (fun x : Int => decide (0 ≤ x ∧ x.toNat ∈ ([] : List Nat)) || s.he x) = s.he := by funext x; simp
  rw [this]
  rfl
theorem hold_new {s : St} {fr : List Nat} {i x : Nat} (hm : Met s.nd s.he fr) (hx : fr[i]? = some x) : (s.hold (fr.take i)).he x = false := by
  unfold St.hold
  simp only [Bool.or_eq_false_iff, decide_eq_false_iff_not, not_and]
  refine ⟨fun _ hin => ?_, (hm.all x (List.mem_of_getElem? hx)).2.2⟩
  simp only [Int.toNat_natCast] at hin
  obtain ⟨j, hj⟩ := List.mem_iff_getElem?.1 hin
  have hji : j < i := by
    rcases Nat.lt_or_ge j i with h | h
    · exact h
    · rw [List.getElem?_take, if_neg (by omega)] at hj; cases hj
  rw [List.getElem?_take, if_pos hji] at hj
  have hi := lt_of_some hx
  have := (List.pairwise_iff_getElem.1 hm.nodup) j i (by omega) hi hji
  rw [List.getElem?_eq_getElem (by omega)] at hj
  rw [List.getElem?_eq_getElem hi] at hx
  exact this (Option.some.inj (hj.trans hx.symm))
theorem hold_succ {s : St} {fr : List Nat} {i x : Nat} (hx : fr[i]? = some x) : { s.hold (fr.take i) with he := fun y : Int => decide (y = (x : Int)) || (s.hold (fr.take i)).he y, hn := (s.hold (fr.take i)).hn + 1 } = s.hold (fr.take (i + 1)) := by
  rw [hold_step hx]
  have hi := lt_of_some hx
  unfold St.hold
  simp only [List.length_take]
  congr 1
  omega
theorem Inv.hold {s : St} {fb ft : Nd → Option Int} (I : Inv s fb ft) {f : Nat} (hf : f < s.nd.length) : Inv (s.give f) fb ft := by
  refine ⟨I.by_, I.it, I.wf, I.nm, fun x hx => ?_⟩
  simp only [St.give, St.hold, Bool.or_eq_true, decide_eq_true_eq] at hx
  rcases hx with rfl | hx
  · exact ⟨f, rfl, hf⟩
  · exact I.gi x hx
theorem seen_start : (fun x : Int => decide (x = 1) || (decide (x = 0) || false)) = seenB [] := by
  funext x
  unfold seenB
  rw [Bool.or_false, ← Bool.decide_or]
  congr 1
  simp only [List.not_mem_nil, or_false, eq_iff_iff]
  omega

theorem vs_start {w w1 w2 : World} {p : Nat} (ht1 : World.mapTurned (((w.alloc (.cells #[.pointer (some ⟨p, 0, none⟩)] 24)).alloc (.cells #[.slice none 0 0] 94)).alloc (.map #[] 0)) w1 (w.heap.size + 2)) (ht2 : w1.mapTurned w2 (w.heap.size + 2))
    (hm : MSet Tryz.prog w2 21 4 (w.heap.size + 2) 2 2 enc3 fun x => decide (x = 1) || decide (x = 0)) :
    Vs w ((w2.alloc (.cells #[.map (some (w.heap.size + 2))] 49)).alloc (.cells #[(.func (.func 93) #[] #[.pointer (some ⟨w2.heap.size, 0, none⟩), .pointer (some ⟨w.heap.size, 0, none⟩), .pointer (some ⟨w.heap.size + 1, 0, none⟩), .pointer (some ⟨w2.heap.size + 1, 0, none⟩)])] 85))
      p w2.heap.size w.heap.size (w.heap.size + 1) (w2.heap.size + 1) (w.heap.size + 2) [] := by
  have hg := (ht1.trans ht2).grown
  have hs := hg.size
  simp only [World.size_alloc] at hs
  have c2 : w2.heap[w.heap.size]? = some (.cells #[.pointer (some ⟨p, 0, none⟩)] 24 (0, 0)) := heap_grown (heap_old (heap_old (heap_new _ _))) hg (opt_ne (by omega))
  have c3 : w2.heap[w.heap.size + 1]? = some (.cells #[.slice none 0 0] 94 (0, 0)) := by
    have := heap_new (w.alloc (.cells #[.pointer (some ⟨p, 0, none⟩)] 24)) (.cells #[.slice none 0 0] 94)
    rw [show (w.alloc (.cells #[.pointer (some ⟨p, 0, none⟩)] 24)).heap.size = w.heap.size + 1 by simp] at this
    exact heap_grown (heap_old this) hg (opt_ne (by omega))
  have hb : Below w.heap.size w w2 := ((((Below.refl _ w).alloc (Nat.le_refl _) _).alloc (by simp) _).alloc (by simp; omega) _).grown hg (by simp; omega) (fun b e => by injection e with e; omega)
  have c1 : (w2.alloc (.cells #[.map (some (w.heap.size + 2))] 49)).heap[w2.heap.size]? = some (.cells #[.map (some (w.heap.size + 2))] 49 (0, 0)) := heap_new _ _
  have c4 : ((w2.alloc (.cells #[.map (some (w.heap.size + 2))] 49)).alloc (.cells #[(.func (.func 93) #[] #[.pointer (some ⟨w2.heap.size, 0, none⟩), .pointer (some ⟨w.heap.size, 0, none⟩), .pointer (some ⟨w.heap.size + 1, 0, none⟩), .pointer (some ⟨w2.heap.size + 1, 0, none⟩)])] 85)).heap[w2.heap.size + 1]? = some (.cells #[(.func (.func 93) #[] #[.pointer (some ⟨w2.heap.size, 0, none⟩), .pointer (some ⟨w.heap.size, 0, none⟩), .pointer (some ⟨w.heap.size + 1, 0, none⟩), .pointer (some ⟨w2.heap.size + 1, 0, none⟩)])] 85 (0, 0)) := by
    have := heap_new (w2.alloc (.cells #[.map (some (w.heap.size + 2))] 49)) (.cells #[(.func (.func 93) #[] #[.pointer (some ⟨w2.heap.size, 0, none⟩), .pointer (some ⟨w.heap.size, 0, none⟩), .pointer (some ⟨w.heap.size + 1, 0, none⟩), .pointer (some ⟨w2.heap.size + 1, 0, none⟩)])] 85)
    rw [show (w2.alloc (.cells #[.map (some (w.heap.size + 2))] 49)).heap.size = w2.heap.size + 1 by simp] at this
    exact this
  refine ⟨heap_old c1, heap_old (heap_old c2), c4, ?_, ⟨.slice none 0 0, heap_old (heap_old c3), ⟨rfl, .inl ⟨rfl, rfl⟩⟩⟩, ?_, by omega, by omega, by omega, by omega, by omega⟩
  · have e : (fun x : Int => decide (x = 1) || decide (x = 0)) = seenB [] := by rw [← seen_start]; funext x; simp
    rw [e] at hm
    exact (hm.kept (World.grownBy_alloc _ _ none) (by simp)).kept (World.grownBy_alloc _ _ none) (by simp)
  · exact (hb.alloc (by omega) _).alloc (by simp; omega) _

set_option maxHeartbeats 4000000 in
set_option maxRecDepth 100000 in
theorem give_any (k : Blk) (s : St) (f : Nat) (w : World) (hA : Ar w k s) (hf : f < s.nd.length) (hm : s.m + 2 ≤ 1000000000) (hms : s.ms ≤ 4194304) (hgn : s.gn ≤ 1000000000) (hhn : s.hn ≤ 4194304) :
    Calls Tryz.prog 71 #[.pointer (some ⟨k.p, 0, none⟩), .int .i32 f] w (GiveOut k s f w) := by
  have HA := hide hA
  obtain ⟨fb, ft, H, I⟩ := hA
  have hW := I.wf
  have hnm := I.nm
  have HM := hide (vis_met hW (f + 1) [] f hf (Met.nil s.nd s.he))
  have HMS := hide (MSet.made (P := Tryz.prog) ((w.alloc (.cells #[.pointer (some ⟨k.p, 0, none⟩)] 24)).alloc (.cells #[.slice none 0 0] 94)) 21 4 enc3)
  have hsz : ((w.alloc (.cells #[.pointer (some ⟨k.p, 0, none⟩)] 24)).alloc (.cells #[.slice none 0 0] 94)).heap.size = w.heap.size + 2 := by simp
  rw [hsz] at HMS
  have hmm := @run_makeMap Tryz.prog
  go_enter Tryz.func71, Tryz.ntmps71
  go_wp2_with (refine wpList_ins rfl (.tmp 11) _ _ rfl HMS.out keyed3 Tryz.underlying49 Tryz.underlying4 (by unfold maxLen; omega) enc3_inj rfl (0 : Int) _ rfl (key3 0 (by omega) (by omega)) rfl ?_)
  intro w1 hm1 ht1
  have HM1 := hide hm1
  have HT1 := hide ht1
  clear hm1 ht1
  go_wp2_with (refine wpList_ins rfl (.tmp 11) _ _ rfl HM1.out keyed3 Tryz.underlying49 Tryz.underlying4 (by unfold maxLen; omega) enc3_inj rfl (1 : Int) _ rfl (key3 1 (by omega) (by omega)) rfl ?_)
  intro w2 hm2 ht2
  have HM2 := hide hm2
  have HT2 := hide ht2
  clear hm2 ht2
  have HV := hide (vs_start HT1.out HT2.out HM2.out)
  go_wp2_with fail
  refine (visit_any k s w HA.out (by omega) _ _ _ _ _ (f + 1) f [] _ (by omega) hf (Met.nil _ _) HV.out).mono ?_
  rintro e w5 ⟨rfl, V5⟩
  have HV5 := hide V5
  have HSZ := hide HV.out.below.size
  clear V5 HV HT1 HT2 HM1 HM2 HMS hsz hmm
  generalize hfr : vis s.nd s.he (f + 1) [] f = fr at *
  have hfr2 : fresh s f = fr := hfr
  go_wp2_with fail
  have H5 := H.below HV5.out.below
  obtain ⟨vr, e3, hrow⟩ := HV5.out.row
  obtain ⟨A, C, rfl⟩ := own_slice hrow
  have u0 : ∀ x, (lat w5 x).cell? ⟨w.heap.size, 0, none⟩ = some (.pointer (some ⟨k.p, 0, none⟩)) := lat_cell (cell_heap HV5.out.c2 rfl)
  have u3 : ∀ x, (lat w5 x).cell? ⟨w.heap.size + 1, 0, none⟩ = some (.slice A fr.length C) := lat_cell (cell_heap e3 rfl)
  have u6 := lat_cell H5.c6
  have u1 := lat_cell H5.c1
  have ul : ∀ x ty, (Builtin.len_ #[49] ty #[.map (some k.he)]).run Tryz.prog (lat w5 x) = .ok (.int .i64 s.hn) (lat w5 x) := fun x ty => (H5.below (lat_below w5 x)).he.len Tryz.underlying49 ty
  have hfl := HM.out.len
  have HR := hide hrow
  have HE3 := hide e3
  have HH := hide H
  have HI := hide I
  have HH5 := hide H5
  clear hrow e3 H H5 I
  have hlen : fr.length ≤ 1000000000 := by omega
  rcases Nat.lt_or_ge s.ms (s.hn + fr.length) with hlt | hge
  · have d1 : decide ((s.ms : Int) < (s.hn : Int) + fr.length) = true := by simp; omega
    refine wp_region_lat (by kernel_rfl) (by kernel_rfl) ?_
    repeat (first | go_big_quiet_step ((fail)) | quiet_step ((fail)))
    refine wpQuiet_nil ?_
    intro _ hlat
    obtain ⟨wq, rfl⟩ := hlat
    go_wp2_with fail
    go_ret2
    exact .inl ⟨by rw [hfr2]; exact hlt, rfl, HA.out.below (below_wide HV5.out.below (lat_below w5 wq)), Turn.below (below_wide HV5.out.below (lat_below w5 wq))⟩
  · have d1 : decide ((s.ms : Int) < (s.hn : Int) + fr.length) = false := by simp; omega
    refine wp_region_lat (by kernel_rfl) (by kernel_rfl) ?_
    repeat (first | go_big_quiet_step ((fail)) | quiet_step ((fail)))
    refine wpQuiet_nil ?_
    intro _ hlat
    obtain ⟨wq, rfl⟩ := hlat
    have x2 := hide (heapB (lat_below w5 wq) HV5.out.c2)
    have x3 := hide (heapB (lat_below w5 wq) HE3.out)
    have xr := hide (own_below HR.out (lat_below w5 wq))
    have xh := hide (HH5.out.below (lat_below w5 wq))
    have xb := hide (below_wide HV5.out.below (lat_below w5 wq))
    clear u0 u3 u6 u1 ul HV5 HE3 HR HH5
    generalize lat w5 wq = w6 at *
    have u3 : w6.cell? ⟨w.heap.size + 1, 0, none⟩ = some (.slice A fr.length C) := cell_heap x3.out rfl
    have HN := hide hnm
    go_wp2_with fail
    go_loopw [10, 32] (fun _ j wr => ∃ i : Nat, j = .int .i64 i ∧ i ≤ fr.length ∧ Hp wr k (s.hold (fr.take i)) fb ft ∧ Turn k k w wr ∧ wr.heap[w.heap.size]? = some (.cells #[.pointer (some ⟨k.p, 0, none⟩)] 24 (0, 0)) ∧ wr.ownsRow w.heap.size 21 1 (.slice A fr.length C) fr.length (fr.map fun (x : Nat) => enc3 x)) (fun _ j _ => fr.length - (intOf j).toNat)
    case atStart => exact ⟨0, rfl, Nat.zero_le _, by rw [List.take_zero, hold_zero]; exact xh.out, Turn.below xb.out, x2.out, xr.out⟩
    case round =>
      obtain ⟨i, rfl, hi, hHp, hT, hbx, hrow⟩ := hrel
      rcases Nat.lt_or_ge i fr.length with hlt | hge2
      · obtain ⟨x, hx⟩ : ∃ x, fr[i]? = some x := ⟨_, List.getElem?_eq_getElem hlt⟩
        have d2 : decide (i < fr.length) = true := by simpa using hlt
        have d3 : (i : Int) < fr.length := by omega
        obtain ⟨g, rfl⟩ : ∃ g, A = some ⟨g, 0, none⟩ := by
          rcases hrow.2 with ⟨h1, h2⟩ | ⟨g, cap, cur, h1, _⟩
          · omega
          · injection h1 with h1 _ _; exact ⟨g, h1⟩
        have hc : wr.cell? ⟨g, i, none⟩ = some (.int .i32 x) := by
          rw [hrow.cellAt i (by omega), List.getElem?_map, hx]; rfl
        have hbc := cell_heap (j := 0) hbx rfl
        have hc6 := hHp.c6
        have hxl := HM.out.all x (List.mem_of_getElem? hx)
        have hxn := HN.out
        have hnew := hold_new HM.out hx
        have hk3 := key3 (x : Int) (by omega) (by omega)
        have hmx : (s.hold (fr.take i)).hn < maxLen := by
          unfold St.hold maxLen
          simp only [List.length_take]
          omega
        have HHp := hide hHp
        have HTT := hide hT
        have HBX := hide hbx
        have HRW := hide hrow
        clear hHp hT hbx hrow hxl hxn
        go_wp2_with (at_mapUpdate; go_must (refine wpList_add rfl (.tmp 39) (.tmp 40) _ rfl HHp.out.he keyed3 Tryz.underlying49 Tryz.underlying4 hmx enc3_inj rfl (x : Int) _ rfl hk3 rfl ?_))
        intro w7 hm7 ht7
        obtain ⟨H7, T7⟩ := HHp.out.hePut hm7 ht7
        rw [hold_succ hx] at H7
        have HH7 := hide H7
        have HT7 := hide (HTT.out.trans T7)
        have HB7 := hide (heap_grown HBX.out ht7.grown (opt_ne (fun e => by have := HH.out.lt k.he (by simp [fp]); omega)))
        have HR7 := hide (own_kept HRW.out ht7.grown (fun g' e1 e2 => by
          injection e1 with e1
          have := HH.out.lt k.he (by simp [fp])
          have := (HRW.out.lt _ e2).1
          omega))
        clear hm7 ht7 H7 T7
        go_wp2_with fail
        go_roundw
        case rel => exact ⟨i + 1, by go_num, by omega, HH7.out, HT7.out, HB7.out, HR7.out⟩
        case measure => simp [intOf]; omega
      · have e : i = fr.length := by omega
        have d2 : decide (i < fr.length) = false := by simp; omega
        subst e
        rw [List.take_length] at hHp
        obtain ⟨N, HG⟩ := hHp.gi
        have hbc := cell_heap (j := 0) hbx rfl
        have hc5 := hHp.c5
        have hxn := HN.out
        have hkI := keyI (f : Int) (by omega) (by omega)
        have hmx : (s.hold fr).gn < maxLen := by
          unfold St.hold maxLen
          simp only
          omega
        have HHp := hide hHp
        have HTT := hide hT
        clear hHp hT hbx hrow hxn
        cases hgf : (s.hold fr).gi (f : Int)
        all_goals (
          go_wp2_with (at_mapUpdate; go_must (refine wpList_add rfl (.tmp 45) (.tmp 47) _ rfl HG keyedI Tryz.underlying48 Tryz.underlying4 hmx encI_inj rfl (f : Int) _ rfl hkI rfl ?_))
          intro w8 hm8 ht8
          obtain ⟨H8, T8⟩ := HHp.out.giPut hm8 ht8
          have HX := hide (show GiveOut k s f w (.returned (.tuple #[.int .i64 f, .int .i64 0])) w8 from
            .inr ⟨by rw [hfr2]; exact hge, rfl, ⟨fb, ft, by unfold St.give; rw [hfr2]; exact H8, HI.out.hold hf⟩, HTT.out.trans T8⟩)
          clear hm8 ht8 H8 T8 HG
          go_wp2_with fail
          go_ret2
          exact HX.out)
end Go.Proofs.YtgfjdkkfgclhjaaGreat.Bd
/- New. -/
namespace Go.Proofs.YtgfjdkkfgclhjaaGreat.Bd
open Go.RowKit Go.Proofs.YtgfjdkkfgclhjaaGreat Go.Proofs.YtgfjdkkfgclhjaaGreat.Lx Go.Maps

def ends : List Nd := [(256, 0, 0), (256, 0, 0)]
def St.new (vs ms : Nat) : St := ⟨vs, ms, ends, fun x => decide (x = 1) || decide (x = 0), 2, fun _ => false, 0, 0⟩
theorem ends_get {i : Nat} {x : Nd} (h : ends[i]? = some x) : i < 2 := by simpa [ends] using lt_of_some h
theorem ends_wf : WF ends := ⟨rfl, rfl, fun i j x hi hj gi gj => by have := ends_get gi; omega, fun i hi => by
  have : i < 2 := by simpa [ends] using hi
  rcases (by omega : i = 0 ∨ i = 1) with rfl | rfl
  · exact ⟨256, _, .zero⟩
  · exact ⟨256, _, .one⟩⟩
theorem new_inv (vs ms : Nat) : Inv (St.new vs ms) (fun _ => none) (fun _ => none) := by
  refine ⟨⟨?_, ?_⟩, ?_, ends_wf, by simp [St.new, ends], fun x hx => ?_⟩
  · intro x c h; cases h
  · intro i x h2 h
    have := ends_get (show ends[i]? = some x from h)
    omega
  · intro a b c i h; cases h
  · simp only [St.new, Bool.or_eq_true, decide_eq_true_eq] at hx
    rcases hx with rfl | rfl
    · exact ⟨1, rfl, by simp [St.new, ends]⟩
    · exact ⟨0, rfl, by simp [St.new, ends]⟩
/-- an arena of one's own -/
def Own (w w' : World) (k : Blk) (s : St) : Prop := Ar w' k s ∧ Below w.heap.size w w' ∧ ∀ i, fp k i → w.heap.size ≤ i

theorem new_start {w w1 w2 : World} {vs ms : Nat} (ht1 : World.mapTurned ((((w.alloc (.cells #[.int .i32 256, .int .i32 0, .int .i32 0, .int .i32 256, .int .i32 0, .int .i32 0] 44)).alloc (.map #[] 0)).alloc (.map #[] 0)).alloc (.map #[] 0)) w1 (w.heap.size + 3)) (ht2 : w1.mapTurned w2 (w.heap.size + 3))
    (hm : MSet Tryz.prog w2 3 4 (w.heap.size + 3) 2 2 encI fun x => decide (x = 1) || decide (x = 0)) :
    Own w ((w2.alloc (.map #[] 0)).alloc (.cells #[.int .i64 vs, .int .i64 ms, .slice (some ⟨w.heap.size, 0, none⟩) 2 2, .map (some (w.heap.size + 1)), .map (some (w.heap.size + 1 + 1)), .map (some (w.heap.size + 3)), .map (some w2.heap.size)] 51))
      ⟨w2.heap.size + 1, w.heap.size, 2, w.heap.size + 1, w.heap.size + 1 + 1, w.heap.size + 3, w2.heap.size⟩ (St.new vs ms) := by
  have hg := (ht1.trans ht2).grown
  have hs := hg.size
  simp only [World.size_alloc] at hs
  have hb : Below w.heap.size w w2 := (((((Below.refl _ w).alloc (Nat.le_refl _) _).alloc (by simp) _).alloc (by simp; omega) _).alloc (by simp; omega) _).grown hg (by simp; omega) (fun b e => by injection e with e; omega)
  have c0 : w2.heap[w.heap.size]? = some (.cells #[.int .i32 256, .int .i32 0, .int .i32 0, .int .i32 256, .int .i32 0, .int .i32 0] 44 (0, 0)) := heap_grown (heap_old (heap_old (heap_old (heap_new _ _)))) hg (opt_ne (by omega))
  have s1 : (w.alloc (.cells #[.int .i32 256, .int .i32 0, .int .i32 0, .int .i32 256, .int .i32 0, .int .i32 0] 44)).heap.size = w.heap.size + 1 := by simp
  have s2 : ((w.alloc (.cells #[.int .i32 256, .int .i32 0, .int .i32 0, .int .i32 256, .int .i32 0, .int .i32 0] 44)).alloc (.map #[] 0)).heap.size = w.heap.size + 1 + 1 := by simp
  have m1 := MInt.made (P := Tryz.prog) (w.alloc (.cells #[.int .i32 256, .int .i32 0, .int .i32 0, .int .i32 256, .int .i32 0, .int .i32 0] 44)) 44 21 .i32 encN
  have m2 := MInt.made (P := Tryz.prog) ((w.alloc (.cells #[.int .i32 256, .int .i32 0, .int .i32 0, .int .i32 256, .int .i32 0, .int .i32 0] 44)).alloc (.map #[] 0)) 135 21 .i32 encN
  have m4 := MSet.made (P := Tryz.prog) w2 21 4 enc3
  rw [s1] at m1
  rw [s2] at m2
  have k1 := ((m1.kept (World.grownBy_alloc _ (.map #[] 0) none) (by simp)).kept (World.grownBy_alloc _ (.map #[] 0) none) (by simp)).kept hg (opt_ne (by omega))
  have k2 := (m2.kept (World.grownBy_alloc _ (.map #[] 0) none) (by simp)).kept hg (opt_ne (by omega))
  refine ⟨⟨_, _, ⟨?_, ?_, ?_, ?_, ?_, ?_, by simp, by simp, by simp only; omega, by simp, by simp only; omega, by simp only; omega⟩, new_inv vs ms⟩, ?_, ?_⟩
  · have := heap_new (w2.alloc (.map #[] 0)) (.cells #[.int .i64 vs, .int .i64 ms, .slice (some ⟨w.heap.size, 0, none⟩) 2 2, .map (some (w.heap.size + 1)), .map (some (w.heap.size + 1 + 1)), .map (some (w.heap.size + 3)), .map (some w2.heap.size)] 51)
    rw [show (w2.alloc (.map #[] 0)).heap.size = w2.heap.size + 1 by simp] at this
    exact this
  · exact ⟨rfl, .inr ⟨w.heap.size, 2, _, rfl, Nat.zero_le _, heap_old (heap_old c0), Nat.le_refl _, by unfold maxLen; omega, rfl, rfl⟩⟩
  · exact (k1.kept (World.grownBy_alloc _ (.map #[] 0) none) (by simp)).kept (World.grownBy_alloc _ _ none) (by simp)
  · exact (k2.kept (World.grownBy_alloc _ (.map #[] 0) none) (by simp)).kept (World.grownBy_alloc _ _ none) (by simp)
  · exact ⟨2, (hm.kept (World.grownBy_alloc _ (.map #[] 0) none) (by simp)).kept (World.grownBy_alloc _ _ none) (by simp)⟩
  · exact m4.kept (World.grownBy_alloc _ _ none) (by simp)
  · exact (hb.alloc (by omega) _).alloc (by simp; omega) _
  · rintro i (h | h | h | h | h | h) <;> simp only at h <;> omega

set_option maxHeartbeats 2000000 in
set_option maxRecDepth 100000 in
theorem new_any (vs ms : Nat) (w : World) (h1 : vs ≤ 256) (h2 : ms ≤ 4194304) : Calls Tryz.prog 4 #[.int .i64 vs, .int .i64 ms] w fun e w' => ∃ k, e = .returned (.tuple #[.pointer (some ⟨k.p, 0, none⟩), .int .i64 0]) ∧ Own w w' k (St.new vs ms) := by
  have d1 : decide ((vs : Int) < 0) = false := by simp
  have d2 : decide ((256 : Int) < vs) = false := by simp; omega
  have d3 : decide ((ms : Int) < 0) = false := by simp
  have d4 : decide ((4194304 : Int) < ms) = false := by simp; omega
  have hmm := @run_makeMap Tryz.prog
  have HMS := hide (MSet.made (P := Tryz.prog) ((((w.alloc (.cells #[.int .i32 256, .int .i32 0, .int .i32 0, .int .i32 256, .int .i32 0, .int .i32 0] 44)).alloc (.map #[] 0)).alloc (.map #[] 0))) 3 4 encI)
  have hsz : ((((w.alloc (.cells #[.int .i32 256, .int .i32 0, .int .i32 0, .int .i32 256, .int .i32 0, .int .i32 0] 44)).alloc (.map #[] 0)).alloc (.map #[] 0))).heap.size = w.heap.size + 3 := by simp
  rw [hsz] at HMS
  go_enter Tryz.func4, Tryz.ntmps4
  go_wp2_with (refine wpList_ins rfl (.tmp 29) _ _ rfl HMS.out keyedI Tryz.underlying48 Tryz.underlying4 (by unfold maxLen; omega) encI_inj rfl (0 : Int) _ rfl (keyI 0 (by omega) (by omega)) rfl ?_)
  intro w1 hm1 ht1
  have HM1 := hide hm1
  have HT1 := hide ht1
  clear hm1 ht1
  go_wp2_with (refine wpList_ins rfl (.tmp 29) _ _ rfl HM1.out keyedI Tryz.underlying48 Tryz.underlying4 (by unfold maxLen; omega) encI_inj rfl (1 : Int) _ rfl (keyI 1 (by omega) (by omega)) rfl ?_)
  intro w2 hm2 ht2
  have HM2 := hide hm2
  have HT2 := hide ht2
  clear hm2 ht2
  go_wp2_with fail
  have HO := hide (new_start (vs := vs) (ms := ms) HT1.out HT2.out HM2.out)
  go_ret2
  exact ⟨_, rfl, HO.out⟩
theorem new_bad (vs ms : Int) (w : World) (h : vs < 0 ∨ 256 < vs ∨ 4194304 < ms) (h0 : 0 ≤ ms) : Calls Tryz.prog 4 #[.int .i64 vs, .int .i64 ms] w fun e w' => e = .returned (.tuple #[.pointer none, .int .i64 1]) ∧ w' = w := by
  cases d1 : decide (vs < 0)
  · cases d2 : decide ((256 : Int) < vs)
    · have d3 : decide (ms < 0) = false := by simp; omega
      have d4 : decide ((4194304 : Int) < ms) = true := by
        have := of_decide_eq_false d1
        have := of_decide_eq_false d2
        simp; omega
      go_enter Tryz.func4, Tryz.ntmps4
      go_wp2_with fail
      go_ret2
      exact ⟨rfl, rfl⟩
    · go_enter Tryz.func4, Tryz.ntmps4
      go_wp2_with fail
      go_ret2
      exact ⟨rfl, rfl⟩
  · go_enter Tryz.func4, Tryz.ntmps4
    go_wp2_with fail
    go_ret2
    exact ⟨rfl, rfl⟩
end Go.Proofs.YtgfjdkkfgclhjaaGreat.Bd
/- check: are numbers nodes that were given out? -/
namespace Go.Proofs.YtgfjdkkfgclhjaaGreat.Bd
open Go.RowKit Go.Proofs.YtgfjdkkfgclhjaaGreat Go.Proofs.YtgfjdkkfgclhjaaGreat.Lx Go.Maps

def gvn (s : St) (l : List Int) : Int := if l.all s.gi then 0 else 1
theorem gvn_no {s : St} {l : List Int} {x : Int} (hx : x ∈ l) (h : s.gi x = false) : gvn s l = 1 := by
  unfold gvn
  rw [if_neg]
  intro ha
  have := List.all_eq_true.1 ha x hx
  rw [h] at this
  cases this
theorem gvn_all {s : St} {l : List Int} (h : ∀ x ∈ l, s.gi x = true) : gvn s l = 0 := by
  unfold gvn
  rw [if_pos (List.all_eq_true.2 h)]

set_option maxHeartbeats 1000000 in
set_option maxRecDepth 100000 in
theorem check_any (k : Blk) (s : St) (l : List Int) (Q : Nat) (w : World) (hA : Ar w k s) (hl : ∀ (j : Nat) (x : Int), l[j]? = some x → w.cell? ⟨Q, j, none⟩ = some (.int .i64 x)) (hr : ∀ x ∈ l, -9223372036854775808 ≤ x ∧ x < 9223372036854775808) (hn : l.length < 1000) :
    Calls Tryz.prog 35 #[.pointer (some ⟨k.p, 0, none⟩), .slice (some ⟨Q, 0, none⟩) l.length l.length] w fun e w' => e = .returned (.int .i64 (gvn s l)) ∧ w' = w := by
  obtain ⟨fb, ft, H, I⟩ := hA
  obtain ⟨N, HG⟩ := H.gi
  have c5 := H.c5
  have HL := hide hl
  have HR := hide hr
  clear hl hr
  go_enter Tryz.func35, Tryz.ntmps35
  go_wp2_with fail
  go_loop [6, 11] (fun _ j => ∃ i : Nat, j = .int .i64 i ∧ i ≤ l.length ∧ ∀ x ∈ l.take i, s.gi x = true) (fun _ j => l.length - (intOf j).toNat)
  case atStart => exact ⟨0, rfl, Nat.zero_le _, by simp⟩
  case round =>
    obtain ⟨i, rfl, hi, hall⟩ := hrel
    rcases Nat.lt_or_ge i l.length with hlt | hge
    · obtain ⟨x, hx⟩ : ∃ x, l[i]? = some x := ⟨_, List.getElem?_eq_getElem hlt⟩
      have d1 : decide (i < l.length) = true := by simpa using hlt
      have d2 : ((i : Int) < l.length) := by omega
      have hc := HL.out i x hx
      have hxr := HR.out x (List.mem_of_getElem? hx)
      have lk : (Instr.lookup 48 (.map (some k.gi)) (.int .i64 x) false).run Tryz.prog w = .ok (.bool (s.gi x)) w := HG.look keyedI Tryz.underlying48 Tryz.underlying4 (zeroB _) (keyI x hxr.1 hxr.2)
      cases hg : s.gi x with
      | false =>
        rw [hg] at lk
        have HV := hide (gvn_no (List.mem_of_getElem? hx) hg)
        clear H I HG
        go_wp2_with fail
        go_ret
        exact ⟨by rw [HV.out]; rfl, rfl⟩
      | true =>
        rw [hg] at lk
        have HV : Hid (∀ y ∈ l.take (i + 1), s.gi y = true) := by
          intro y hy
          rw [List.take_add_one, hx] at hy
          rcases List.mem_append.1 hy with h | h
          · exact hall y h
          · have : y = x := by simpa using h
            rw [this]; exact hg
        clear H I HG hall
        go_wp2_with fail
        go_round
        case rel => exact ⟨i + 1, by go_num, by omega, HV.out⟩
        case measure => simp [intOf]; omega
    · have e : i = l.length := by omega
      have d1 : decide (i < l.length) = false := by simp; omega
      subst e
      have HV := hide (gvn_all (s := s) (l := l) (by simpa using hall))
      clear H I HG hall
      go_wp2_with fail
      go_ret
      exact ⟨by rw [HV.out]; rfl, rfl⟩
end Go.Proofs.YtgfjdkkfgclhjaaGreat.Bd
/- ite, whole. -/
namespace Go.Proofs.YtgfjdkkfgclhjaaGreat.Bd
open Go.RowKit Go.Proofs.YtgfjdkkfgclhjaaGreat Go.Proofs.YtgfjdkkfgclhjaaGreat.Lx Go.Maps

theorem Den.head {S : Nat → Bool} {nd : List Nd} {i t : Nat} {F : Env → Bool} (hw : WF nd) (h : Den S nd i t F) : ∃ lo hi, nd[i]? = some (t, lo, hi) := by
  cases h with
  | zero => exact ⟨_, _, hw.e0⟩
  | one => exact ⟨_, _, hw.e1⟩
  | node h h2 hl hh hne h1 h3 hv hS dl dh => exact ⟨_, _, h⟩
theorem box4 (w : World) (a b c d : Value) (ta tb tc td : TypeId) : Below w.heap.size w ((((w.alloc (.cells #[a] ta)).alloc (.cells #[b] tb)).alloc (.cells #[c] tc)).alloc (.cells #[d] td)) :=
  ((((Below.refl _ w).alloc (Nat.le_refl _) _).alloc (by simp) _).alloc (by simp; omega) _).alloc (by simp; omega) _
theorem box5 (w : World) (a b c d e1 e2 e3 : Value) (ta tb tc td te : TypeId) (W : World) (hW : W = ((((w.alloc (.cells #[a] ta)).alloc (.cells #[b] tb)).alloc (.cells #[c] tc)).alloc (.cells #[d] td)).alloc (.cells #[e1, e2, e3] te)) :
    Below w.heap.size w W ∧ W.heap[w.heap.size]? = some (.cells #[a] ta (0, 0)) ∧ W.heap[w.heap.size + 1]? = some (.cells #[b] tb (0, 0)) ∧ W.heap[w.heap.size + 1 + 1]? = some (.cells #[c] tc (0, 0)) ∧ W.heap[w.heap.size + 1 + 1 + 1]? = some (.cells #[d] td (0, 0)) ∧ W.heap[w.heap.size + 4]? = some (.cells #[e1, e2, e3] te (0, 0)) ∧ W.heap.size = w.heap.size + 5 := by
  subst hW
  refine ⟨(box4 w a b c d ta tb tc td).alloc (by simp; omega) _, ?_, ?_, ?_, ?_, ?_, by simp⟩
  · exact heap_old (heap_old (heap_old (heap_old (heap_new _ _))))
  · have := heap_new (w.alloc (.cells #[a] ta)) (.cells #[b] tb)
    rw [show (w.alloc (.cells #[a] ta)).heap.size = w.heap.size + 1 by simp] at this
    exact heap_old (heap_old (heap_old this))
  · have := heap_new ((w.alloc (.cells #[a] ta)).alloc (.cells #[b] tb)) (.cells #[c] tc)
    rw [show ((w.alloc (.cells #[a] ta)).alloc (.cells #[b] tb)).heap.size = w.heap.size + 1 + 1 by simp] at this
    exact heap_old (heap_old this)
  · have := heap_new (((w.alloc (.cells #[a] ta)).alloc (.cells #[b] tb)).alloc (.cells #[c] tc)) (.cells #[d] td)
    rw [show (((w.alloc (.cells #[a] ta)).alloc (.cells #[b] tb)).alloc (.cells #[c] tc)).heap.size = w.heap.size + 1 + 1 + 1 by simp] at this
    exact heap_old this
  · have := heap_new ((((w.alloc (.cells #[a] ta)).alloc (.cells #[b] tb)).alloc (.cells #[c] tc)).alloc (.cells #[d] td)) (.cells #[e1, e2, e3] te)
    rw [show ((((w.alloc (.cells #[a] ta)).alloc (.cells #[b] tb)).alloc (.cells #[c] tc)).alloc (.cells #[d] td)).heap.size = w.heap.size + 4 by simp] at this
    exact this

theorem cut_append {nd ex : List Nd} {f v : Nat} {b : Bool} (h : f < nd.length) : cut (nd ++ ex) f v b = cut nd f v b := by
  unfold cut
  rw [List.getElem?_append_left h]
theorem OkIte.lift {nd ex : List Nd} {f g h r : Nat} (hf : f < nd.length) (hg : g < nd.length) (hh : h < nd.length) (ho : OkIte nd (nd ++ ex) f g h r) : OkIte (nd ++ ex) (nd ++ ex) f g h r := by
  intro S tf tg th F G H d1 d2 d3
  exact ho S tf tg th F G H (d1.shrink hf) (d2.shrink hg) (d3.shrink hh)
theorem Up.len {s s' : St} (h : Up s s') : s.nd.length ≤ s'.nd.length := by
  obtain ⟨ex, e⟩ := h.nd
  rw [e, List.length_append]; omega
theorem ite_mk {S : Nat → Bool} {k2 : Blk} {s s1 s2 : St} {f g h tf tg th v lo hi p : Nat} {F G H : Env → Bool} {w : World} (hW : WF s.nd) (d1 : Den S s.nd f tf F) (d2 : Den S s.nd g tg G) (d3 : Den S s.nd h th H) (hv : v = min tf (min tg th)) (hv2 : v < 256) (hS : S v = true)
    (U1 : Up s s1) (U2 : Up s1 s2) (o1 : OkIte s.nd s1.nd (cut s.nd f v false) (cut s.nd g v false) (cut s.nd h v false) lo) (o2 : OkIte s1.nd s2.nd (cut s1.nd f v true) (cut s1.nd g v true) (cut s1.nd h v true) hi) (hA : Ar w k2 s2) (hm : s2.m + 1 ≤ 1000000000) (hp : k2.p = p) :
    Calls Tryz.prog 72 #[.pointer (some ⟨p, 0, none⟩), .int .i32 v, .int .i32 lo, .int .i32 hi] w fun e w' => ∃ k' s' r, e = .returned (.int .i32 (r : Nat)) ∧ Ar w' k' s' ∧ Turn k2 k' w w' ∧ Up s2 s' ∧ s'.m ≤ s2.m + 1 ∧ OkIte s.nd s'.nd f g h r := by
  subst hp
  obtain ⟨ex1, e1⟩ := U1.nd
  obtain ⟨ex2, e2⟩ := U2.nd
  rw [e1, cut_append (d1.lt hW), cut_append (d2.lt hW), cut_append (d3.lt hW), ← e1] at o2
  obtain ⟨a1, ha1, q1⟩ := cut_den hW d1 (v := v) (by omega) hv2 false
  obtain ⟨a2, ha2, q2⟩ := cut_den hW d2 (v := v) (by omega) hv2 false
  obtain ⟨a3, ha3, q3⟩ := cut_den hW d3 (v := v) (by omega) hv2 false
  obtain ⟨b1, hb1, p1⟩ := cut_den hW d1 (v := v) (by omega) hv2 true
  obtain ⟨b2, hb2, p2⟩ := cut_den hW d2 (v := v) (by omega) hv2 true
  obtain ⟨b3, hb3, p3⟩ := cut_den hW d3 (v := v) (by omega) hv2 true
  obtain ⟨tl, h1, dl⟩ := o1 S _ _ _ _ _ _ q1 q2 q3
  obtain ⟨tt, h2, dh⟩ := o2 S _ _ _ _ _ _ (p1.up U1) (p2.up U1) (p3.up U1)
  refine (mk_any k2 s2 v lo hi w hA hm S tl tt _ _ (dl.up U2) dh (by omega) (by omega) hv2 hS).mono ?_
  rintro e w' ⟨k', s', r, he, hA', hT, hU, hr, ho⟩
  exact ⟨k', s', r, he, hA', hT, hU, hr, ite_halves hW d1 d2 d3 hv hv2 ⟨ex1, e1⟩ ⟨ex2, e2⟩ o1 o2 ho⟩

theorem Inv.memo {s : St} {fb ft : Nd → Option Int} (I : Inv s fb ft) {f g h r : Nat} (hf : f < s.nd.length) (hg : g < s.nd.length) (hh : h < s.nd.length) (hr : r < s.nd.length) (ho : OkIte s.nd s.nd f g h r) :
    Inv { s with m := s.m + 1 } fb (fun x => if x = (f, g, h) then some (r : Int) else ft x) := by
  refine ⟨I.by_, fun a b c i hi => ?_, I.wf, by have := I.nm; simp only; omega, I.gi⟩
  try simp only at hi
  split at hi
  · rename_i e
    simp only [Prod.mk.injEq] at e
    obtain ⟨rfl, rfl, rfl⟩ := e
    cases hi
    exact ⟨r, rfl, hr, hf, hg, hh, ho⟩
  · exact I.it a b c i hi

set_option maxHeartbeats 8000000 in
set_option maxRecDepth 100000 in
theorem ite_step (n : Nat) (hI : IteAt n) : IteAt (n + 1) := by
  intro S k s f g h tf tg th F G H w hn hA d1 d2 d3 hm
  have hW : WF s.nd := by obtain ⟨_, _, _, I⟩ := hA; exact I.wf
  have hpow : 2 ≤ 2 ^ (nS S (min tf (min tg th)) + 1) := by have := Nat.one_le_two_pow (n := nS S (min tf (min tg th))); rw [Nat.pow_succ]; omega
  have hbl := box4 w (.pointer (some ⟨k.p, 0, none⟩)) (.int .i32 f) (.int .i32 g) (.int .i32 h) 24 21 21 21
  obtain ⟨v, hv⟩ : ∃ v, v = min tf (min tg th) := ⟨_, rfl⟩
  rw [← hv] at hn hm hpow ⊢
  -- what is answered at once
  have easy : ∀ r, OkIte s.nd s.nd f g h r → ∀ w', Below w.heap.size w w' → NodeOut k s w (2 ^ (nS S v + 1)) (fun nd' r => OkIte s.nd nd' f g h r) (.returned (.int .i32 (r : Nat))) w' :=
    fun r hr w' hb => ⟨k, s, r, rfl, hA.below hb, Turn.below hb, Up.refl _, by omega, hr⟩
  have HE := hide easy
  have HBL := hide hbl
  clear easy
  cases b1 : ((f : Int) == 1)
  case true =>
    have HO := hide (HE.out g (by have : f = 1 := by have := beq_t b1; omega
                                  subst this; exact ite_one hW) _ hbl)
    clear hA d1 d2 d3 hI hW hbl HE HBL
    go_enter Tryz.func73, Tryz.ntmps73
    go_wp2_with fail
    go_ret
    exact HO.out
  case false =>
  cases b2 : ((g : Int) == h)
  case true =>
    have HO := hide (HE.out g (by have : g = h := by have := beq_t b2; omega
                                  subst this; exact ite_same) _ hbl)
    clear hA d1 d2 d3 hI hW hbl HE HBL
    go_enter Tryz.func73, Tryz.ntmps73
    go_wp2_with fail
    go_ret
    exact HO.out
  case false =>
  cases b3 : ((f : Int) == 0)
  case true =>
    have HO := hide (HE.out h (by have : f = 0 := by have := beq_t b3; omega
                                  subst this; exact ite_zero) _ hbl)
    clear hA d1 d2 d3 hI hW hbl HE HBL
    go_enter Tryz.func73, Tryz.ntmps73
    go_wp2_with fail
    go_ret
    exact HO.out
  case false =>
  have HA := hide hA
  obtain ⟨fb, ft, H, I⟩ := hA
  have HF : Hid (∀ i, w.heap.size ≤ i → ¬ fp k i) := fun i hi hf => by have := H.lt i hf; omega
  have hv2 : v < 256 := by
    have := d1.top
    have b1' := beq_f b1
    have b3' := beq_f b3
    omega
  have hS : S v = true := by
    have : v = tf ∨ v = tg ∨ v = th := by omega
    rcases this with e | e | e
    · rw [e]; exact d1.first (by omega)
    · rw [e]; exact d2.first (by omega)
    · rw [e]; exact d3.first (by omega)
  have hq : 2 ^ (nS S v + 1) = 2 * 2 ^ (nS S (v + 1) + 1) := by
    rw [nS_step S hv2, hS, Nat.pow_succ, Nat.pow_succ, if_pos rfl, Nat.add_comm 1, Nat.pow_succ]
    omega
  have hq2 : 2 ≤ 2 ^ (nS S (v + 1) + 1) := by have := Nat.one_le_two_pow (n := nS S (v + 1)); rw [Nat.pow_succ]; omega
  have l1 := d1.lt hW
  have l2 := d2.lt hW
  have l3 := d3.lt hW
  have hnm := I.nm
  have sm : small (f, g, h) := ⟨by simp; omega, by simp; omega, by simp; omega⟩
  obtain ⟨kl, hkl⟩ := keyT (f, g, h) sm
  cases b4 : ((g : Int) == 1)
  · go_enter Tryz.func73, Tryz.ntmps73
    go_wp2_with fail
    generalize hWd : (((((w.alloc (Obj.cells #[Value.pointer (some { block := k.p, off := 0 })] 24)).alloc (Obj.cells #[Value.int IntKind.i32 f] 21)).alloc (Obj.cells #[Value.int IntKind.i32 g] 21)).alloc (Obj.cells #[Value.int IntKind.i32 h] 21)).alloc (Obj.cells #[Value.int IntKind.i32 f, Value.int IntKind.i32 g, Value.int IntKind.i32 h] 135)) = W
    obtain ⟨hbw, z0, z1, z2, z3, z4, hsz⟩ := box5 w _ _ _ _ _ _ _ _ _ _ _ _ W hWd.symm
    have H1 := H.below hbw
    have y0 : ∀ x, (lat W x).cell? ⟨w.heap.size, 0, none⟩ = some (.pointer (some ⟨k.p, 0, none⟩)) := lat_cell (cell_heap z0 rfl)
    have y4 : ∀ x, (lat W x).cell? ⟨w.heap.size + 4, 0, none⟩ = some (.int .i32 f) := lat_cell (cell_heap z4 rfl)
    have y5 : ∀ x, (lat W x).cell? ⟨w.heap.size + 4, 1, none⟩ = some (.int .i32 g) := lat_cell (cell_heap z4 rfl)
    have y6 : ∀ x, (lat W x).cell? ⟨w.heap.size + 4, 2, none⟩ = some (.int .i32 h) := lat_cell (cell_heap z4 rfl)
    have y7 := lat_cell H1.c4
    have lk : ∀ x, (Instr.lookup 47 (.map (some k.it)) (.agg #[.int .i32 f, .int .i32 g, .int .i32 h]) true).run Tryz.prog (lat W x) = .ok (.tuple #[.int .i32 ((ft (f, g, h)).getD 0), .bool (ft (f, g, h)).isSome]) (lat W x) :=
      fun x => ((H1.below (lat_below W x)).it).look keyedT Tryz.underlying47 Tryz.underlying21 (zero3 _) hkl
    have HBW := hide hbw
    have HZ0 := hide z0
    have HZ1 := hide z1
    have HZ2 := hide z2
    have HZ3 := hide z3
    have HZ4 := hide z4
    have HH1 := hide H1
    have HI := hide I
    clear H H1 I z0 z1 z2 z3 z4 hbw hbl hWd HBL
    cases hf : ft (f, g, h) with
    | some c =>
      obtain ⟨r, rfl, hr0, _, _, _, hr⟩ := HI.out.it _ _ _ _ hf
      rw [hf] at lk
      simp only [Option.getD_some, Option.isSome_some] at lk
      refine wp_region_lat (by kernel_rfl) (by kernel_rfl) ?_
      repeat (first | go_big_quiet_step ((fail)) | quiet_step ((fail)))
      refine wpQuiet_nil ?_
      intro _ hlat
      obtain ⟨wq, rfl⟩ := hlat
      go_wp2_with fail
      go_ret
      exact HE.out r hr _ (below_wide HBW.out (lat_below W wq))
    | none =>
      rw [hf] at lk
      simp only [Option.getD_none, Option.isSome_none] at lk
      refine wp_region_lat (by kernel_rfl) (by kernel_rfl) ?_
      repeat (first | go_big_quiet_step ((fail)) | quiet_step ((fail)))
      refine wpQuiet_nil ?_
      intro _ hlat
      obtain ⟨wq, rfl⟩ := hlat
      have hb2 := below_wide HBW.out (lat_below W wq)
      have z0 := heapB (lat_below W wq) HZ0.out
      have z1 := heapB (lat_below W wq) HZ1.out
      have z2 := heapB (lat_below W wq) HZ2.out
      have z3 := heapB (lat_below W wq) HZ3.out
      have z4 := heapB (lat_below W wq) HZ4.out
      have hs2 : w.heap.size + 5 ≤ (lat W wq).heap.size := by have := (lat_below W wq).size; omega
      have H2 := HH1.out.below (lat_below W wq)
      clear y0 y4 y5 y6 y7 lk HZ0 HZ1 HZ2 HZ3 HZ4 HH1 HBW
      generalize lat W wq = w2 at *
      obtain ⟨_, _, nf⟩ := d1.head hW
      obtain ⟨_, _, ng⟩ := d2.head hW
      obtain ⟨_, _, nh⟩ := d3.head hW
      have r1 : (f : Int) < s.nd.length := by omega
      have r2 : (g : Int) < s.nd.length := by omega
      have r3 : (h : Int) < s.nd.length := by omega
      have HS : Hid (∀ w', Below w2.heap.size w2 w' → w'.cell? ⟨w.heap.size, 0, none⟩ = some (.pointer (some ⟨k.p, 0, none⟩)) ∧ w'.cell? ⟨w.heap.size + 1, 0, none⟩ = some (.int .i32 f) ∧ w'.cell? ⟨w.heap.size + 1 + 1, 0, none⟩ = some (.int .i32 g) ∧ w'.cell? ⟨w.heap.size + 1 + 1 + 1, 0, none⟩ = some (.int .i32 h) ∧ w'.cell? ⟨k.p, 2, none⟩ = some (.slice (some ⟨k.g, 0, none⟩) s.nd.length k.c) ∧ w'.cell? ⟨k.g, f * 3, none⟩ = some (.int .i32 tf) ∧ w'.cell? ⟨k.g, g * 3, none⟩ = some (.int .i32 tg) ∧ w'.cell? ⟨k.g, h * 3, none⟩ = some (.int .i32 th)) :=
        fun w' hb => ⟨cell_heap (heapB hb z0) rfl, cell_heap (heapB hb z1) rfl, cell_heap (heapB hb z2) rfl, cell_heap (heapB hb z3) rfl, (H2.below hb).c2, ((H2.below hb).node nf).1, ((H2.below hb).node ng).1, ((H2.below hb).node nh).1⟩
      have hmin : ∀ (w' : World) ts ty, (Builtin.min_ ts ty #[.int .i32 tf, .int .i32 tg, .int .i32 th]).run Tryz.prog w' = .ok (.int .i32 (v : Nat)) w' := by
        intro w' ts ty
        rw [run_min_int3, hv]
        congr 2
        split <;> split <;> omega
      have HV := hide hv
      clear hv
      go_wp2_with fail
      go_region_held3 (fun w' => w'.cell? ⟨w.heap.size, 0, none⟩ = some (.pointer (some ⟨k.p, 0, none⟩)) ∧ w'.cell? ⟨w.heap.size + 1, 0, none⟩ = some (.int .i32 f) ∧ w'.cell? ⟨w.heap.size + 1 + 1, 0, none⟩ = some (.int .i32 g) ∧ w'.cell? ⟨w.heap.size + 1 + 1 + 1, 0, none⟩ = some (.int .i32 h) ∧ w'.cell? ⟨k.p, 2, none⟩ = some (.slice (some ⟨k.g, 0, none⟩) s.nd.length k.c) ∧ w'.cell? ⟨k.g, f * 3, none⟩ = some (.int .i32 tf) ∧ w'.cell? ⟨k.g, g * 3, none⟩ = some (.int .i32 tg) ∧ w'.cell? ⟨k.g, h * 3, none⟩ = some (.int .i32 th))
        (first | exact HS.out _ (Below.drew (Below.refl _ w2)) | exact HS.out _ (Below.alloc (Below.drew (Below.refl _ w2)) (Nat.le_refl _) _) | exact HS.out _ (Below.drew (Below.alloc (Below.refl _ w2) (Nat.le_refl _) _)) | exact HS.out _ (Below.setCell (Below.alloc (Below.drew (Below.refl _ w2)) (Nat.le_refl _) _) (Nat.le_refl _) _) | exact HS.out _ (Below.setCell (Below.drew (Below.alloc (Below.refl _ w2) (Nat.le_refl _) _)) (Nat.le_refl _) _))
        (fail)
      all_goals (
        have hb3 : Below w2.heap.size w2 (w2.alloc (Obj.cells #[.int .i32 v] 21)).drew := ((Below.refl _ w2).alloc (Nat.le_refl _) _).drew
        have HB3 := hide (below_wide hb2 hb3)
        have x0 := heapB hb3 z0
        have x1 := heapB hb3 z1
        have x2 := heapB hb3 z2
        have x3 := heapB hb3 z3
        have x4 := heapB hb3 z4
        have x5 : (w2.alloc (Obj.cells #[.int .i32 v] 21)).drew.heap[w2.heap.size]? = some (.cells #[.int .i32 v] 21 (0, 0)) := heap_new _ _
        generalize (w2.alloc (Obj.cells #[.int .i32 v] 21)).drew = w3 at *
        have HA3 := hide (HA.out.below HB3.out)
        clear hb3 HS hmin H2 nf ng nh r1 r2 r3 z0 z1 z2 z3 z4 hb2
        have c0 : w3.cell? ⟨w.heap.size, 0, none⟩ = some (.pointer (some ⟨k.p, 0, none⟩)) := cell_heap x0 rfl
        have c1 : w3.cell? ⟨w.heap.size + 1, 0, none⟩ = some (.int .i32 f) := cell_heap x1 rfl
        have c2 : w3.cell? ⟨w.heap.size + 1 + 1, 0, none⟩ = some (.int .i32 g) := cell_heap x2 rfl
        have c3 : w3.cell? ⟨w.heap.size + 1 + 1 + 1, 0, none⟩ = some (.int .i32 h) := cell_heap x3 rfl
        have c5 : w3.cell? ⟨w2.heap.size, 0, none⟩ = some (.int .i32 v) := cell_heap x5 rfl
        have HP1 := hide (part_any n hI S k s f g h tf tg th v F G H false w3 _ _ _ _ _ HA3.out d1 d2 d3 HV.out hv2 (by omega) (by omega) c0 c1 c5 c2 c3 (HF.out _ (by omega)) (HF.out _ (by omega)) (HF.out _ (by omega)) (HF.out _ (by omega)) (HF.out _ (by omega)))
        go_wp2_with fail
        refine HP1.out.mono ?_
        intro e w4 hh
        unfold NodeOut at hh
        obtain ⟨k1, s1, lo, he, hA4, T4, U4, m4, o4⟩ := hh
        subst he
        have hlt0 := lt_of_cell c0
        have hlt1 := lt_of_cell c1
        have hlt2 := lt_of_cell c2
        have hlt3 := lt_of_cell c3
        have hlt4 := lt_heap x4
        have hlt5 := lt_of_cell c5
        simp only at hlt0 hlt1 hlt2 hlt3 hlt5
        have f0 := HF.out w.heap.size (by omega)
        have f1 := HF.out (w.heap.size + 1) (by omega)
        have f2 := HF.out (w.heap.size + 1 + 1) (by omega)
        have f3 := HF.out (w.heap.size + 1 + 1 + 1) (by omega)
        have f4 := HF.out (w.heap.size + 4) (by omega)
        have f5 := HF.out w2.heap.size (by omega)
        have g0 := T4.fpn hlt0 f0
        have g1 := T4.fpn hlt1 f1
        have g2 := T4.fpn hlt2 f2
        have g3 := T4.fpn hlt3 f3
        have g4 := T4.fpn hlt4 f4
        have g5 := T4.fpn hlt5 f5
        have e0 : w4.drew.cell? ⟨w.heap.size, 0, none⟩ = some (.pointer (some ⟨k1.p, 0, none⟩)) := by rw [T4.p]; exact T4.cell c0 f0
        have e1 : w4.drew.cell? ⟨w.heap.size + 1, 0, none⟩ = some (.int .i32 f) := T4.cell c1 f1
        have e2 : w4.drew.cell? ⟨w.heap.size + 1 + 1, 0, none⟩ = some (.int .i32 g) := T4.cell c2 f2
        have e3 : w4.drew.cell? ⟨w.heap.size + 1 + 1 + 1, 0, none⟩ = some (.int .i32 h) := T4.cell c3 f3
        have e5 : w4.drew.cell? ⟨w2.heap.size, 0, none⟩ = some (.int .i32 v) := T4.cell c5 f5
        have hA4d := hA4.below ((Below.refl _ w4).drew)
        have HP2 := hide (part_any n hI S k1 s1 f g h tf tg th v F G H true w4.drew _ _ _ _ _ hA4d (d1.up U4) (d2.up U4) (d3.up U4) HV.out hv2 (by omega) (by omega) e0 e1 e5 e2 e3 g0 g1 g5 g2 g3)
        have x4' := hide (T4.heap x4 f4)
        have HT4 := hide (T4.trans (Turn.below (k := k1) ((Below.refl _ w4).drew)))
        have HSZ := hide T4.size
        have HO4 := hide o4
        have HU4 := hide U4
        have hk4 : w4.drew.cell? ⟨w.heap.size, 0, none⟩ = some (.pointer (some ⟨k.p, 0, none⟩)) ∧ w4.drew.cell? ⟨w2.heap.size, 0, none⟩ = some (.int .i32 v) := ⟨T4.cell c0 f0, T4.cell c5 f5⟩
        clear hA4 hA4d T4 U4 o4 HP1 c0 c1 c2 c3 c5 e0 e1 e2 e3 e5 x0 x1 x2 x3 x4 x5 HA3
        go_wp2_with fail
        go_region_held3 (fun w' => w'.cell? ⟨w.heap.size, 0, none⟩ = some (.pointer (some ⟨k.p, 0, none⟩)) ∧ w'.cell? ⟨w2.heap.size, 0, none⟩ = some (.int .i32 v))
          (first | exact hk4 | exact hk5 | exact hk6)
          (first
            | (go_at_call 94; with_reducible refine HP2.out.mono ?_; intro e w5 hh; unfold NodeOut at hh; obtain ⟨k2, s2, hi, he, hA5, T5, U5, m5, o5⟩ := hh; subst he; have hk5 := And.intro (T5.cell hk4.1 g0) (T5.cell hk4.2 g5); have HA5 := hide hA5; have HT5 := hide T5; have HU5 := hide U5; have HO5 := hide o5; clear hA5 T5 U5 o5)
            | (go_at_call 72; with_reducible refine (ite_mk hW d1 d2 d3 HV.out hv2 hS HU4.out HU5.out HO4.out HO5.out HA5.out (by omega) (HT5.out.p.trans HT4.out.p)).mono ?_; rintro e w6 ⟨k3, s3, r, he, hA6, T6, U6, m6, o6⟩; subst he; have hk6 := And.intro (T6.cell hk5.1 (HT5.out.fpn (lt_of_cell hk4.1) g0)) (T6.cell hk5.2 (HT5.out.fpn (lt_of_cell hk4.2) g5)); have HA6 := hide hA6; have HT6 := hide T6; have HU6 := hide U6; have HO6 := hide o6; clear hA6 T6 U6 o6))
        all_goals (
          go_wp2_with fail
          have x6 := hide (HT6.out.heap (HT5.out.heap x4'.out g4) (HT5.out.fpn (lt_heap x4'.out) g4))
          obtain ⟨fb6, ft6, H6, I6⟩ := HA6.out
          have hp3 : k3.p = k.p := HT6.out.p.trans (HT5.out.p.trans HT4.out.p)
          have u0 : w6.drew.cell? ⟨w.heap.size, 0, none⟩ = some (.pointer (some ⟨k.p, 0, none⟩)) := hk6.1
          have u1 : w6.drew.cell? ⟨k.p, 4, none⟩ = some (.map (some k3.it)) := by rw [← hp3]; exact H6.drew.c4
          have u2 : w6.drew.cell? ⟨w.heap.size + 4, 0, none⟩ = some (.int .i32 f) := cell_heap x6.out rfl
          have u3 : w6.drew.cell? ⟨w.heap.size + 4, 1, none⟩ = some (.int .i32 g) := cell_heap x6.out rfl
          have u4 : w6.drew.cell? ⟨w.heap.size + 4, 2, none⟩ = some (.int .i32 h) := cell_heap x6.out rfl
          have u5 : w6.drew.cell? ⟨w.heap.size + 1 + 1 + 1 + 1, 0, none⟩ = some (.int .i32 f) := cell_heap x6.out rfl
          have u6 : w6.drew.cell? ⟨w.heap.size + 1 + 1 + 1 + 1, 1, none⟩ = some (.int .i32 g) := cell_heap x6.out rfl
          have u7 : w6.drew.cell? ⟨w.heap.size + 1 + 1 + 1 + 1, 2, none⟩ = some (.int .i32 h) := cell_heap x6.out rfl
          have hU := (HU4.out.trans HU5.out).trans HU6.out
          obtain ⟨ex, hex⟩ := hU.nd
          have hrl : r < s3.nd.length := by
            obtain ⟨t, _, d⟩ := HO6.out S _ _ _ _ _ _ d1 d2 d3
            exact d.lt I6.wf
          have hl3 := hU.len
          have hnm3 := I6.nm
          have hI8 := hide (I6.memo (f := f) (g := g) (h := h) (by omega) (by omega) (by omega) hrl (by rw [hex]; exact OkIte.lift l1 l2 l3 (by rw [← hex]; exact HO6.out)))
          have HH6 := hide H6.drew
          have HTT := hide ((((Turn.below (k := k) HB3.out).trans HT4.out).trans HT5.out).trans (HT6.out.trans (Turn.below ((Below.refl _ w6).drew))))
          have HUU := hide hU
          clear H6 I6 hex hU
          have v1 : s3.m < maxLen := by unfold maxLen; omega
          have v2 : (Lit.int .i32 r).wf = true := wf3 (by omega) (by omega)
          go_still_tail 6, (by kernel_rfl)
          change wpList _ _ _ _ _ w6.drew
          generalize w6.drew = w7 at *
          go_wp2_with (at_mapUpdate; go_must (refine wpList_put rfl (.tmp 89) (.tmp 90) (.tmp 91) rfl HH6.out.it keyedT Tryz.underlying47 Tryz.underlying21 v1 encN_inj rfl (f, g, h) kl rfl hkl r rfl v2 ?_))
          intro w8 hmi hmt
          obtain ⟨H8, T8⟩ := HH6.out.itPut hmi hmt
          have HX := hide (show NodeOut k s w (2 ^ (nS S v + 1)) (fun nd' r => OkIte s.nd nd' f g h r) (.returned (.int .i32 (r : Nat))) w8 from
            ⟨k3, _, r, rfl, ⟨_, _, H8, hI8.out⟩, HTT.out.trans T8, ⟨HUU.out.vs, HUU.out.ms, HUU.out.gi, HUU.out.gn, HUU.out.he, HUU.out.hn, HUU.out.nd, Nat.le_succ_of_le HUU.out.m⟩, by simp only; omega, HO6.out⟩)
          clear hmi hmt H8 T8
          go_wp2_with fail
          go_ret
          exact HX.out))
  · cases b5 : ((h : Int) == 0)
    case true =>
      have HO := hide (HE.out f (by
        have e1 : g = 1 := by have := beq_t b4; omega
        have e2 : h = 0 := by have := beq_t b5; omega
        subst e1 e2
        exact ite_self) _ hbl)
      clear HA d1 d2 d3 hI hW hbl HE HBL H I
      go_enter Tryz.func73, Tryz.ntmps73
      go_wp2_with fail
      go_ret
      exact HO.out
    case false =>
    go_enter Tryz.func73, Tryz.ntmps73
    go_wp2_with fail
    generalize hWd : (((((w.alloc (Obj.cells #[Value.pointer (some { block := k.p, off := 0 })] 24)).alloc (Obj.cells #[Value.int IntKind.i32 f] 21)).alloc (Obj.cells #[Value.int IntKind.i32 g] 21)).alloc (Obj.cells #[Value.int IntKind.i32 h] 21)).alloc (Obj.cells #[Value.int IntKind.i32 f, Value.int IntKind.i32 g, Value.int IntKind.i32 h] 135)) = W
    obtain ⟨hbw, z0, z1, z2, z3, z4, hsz⟩ := box5 w _ _ _ _ _ _ _ _ _ _ _ _ W hWd.symm
    have H1 := H.below hbw
    have y0 : ∀ x, (lat W x).cell? ⟨w.heap.size, 0, none⟩ = some (.pointer (some ⟨k.p, 0, none⟩)) := lat_cell (cell_heap z0 rfl)
    have y4 : ∀ x, (lat W x).cell? ⟨w.heap.size + 4, 0, none⟩ = some (.int .i32 f) := lat_cell (cell_heap z4 rfl)
    have y5 : ∀ x, (lat W x).cell? ⟨w.heap.size + 4, 1, none⟩ = some (.int .i32 g) := lat_cell (cell_heap z4 rfl)
    have y6 : ∀ x, (lat W x).cell? ⟨w.heap.size + 4, 2, none⟩ = some (.int .i32 h) := lat_cell (cell_heap z4 rfl)
    have y7 := lat_cell H1.c4
    have lk : ∀ x, (Instr.lookup 47 (.map (some k.it)) (.agg #[.int .i32 f, .int .i32 g, .int .i32 h]) true).run Tryz.prog (lat W x) = .ok (.tuple #[.int .i32 ((ft (f, g, h)).getD 0), .bool (ft (f, g, h)).isSome]) (lat W x) :=
      fun x => ((H1.below (lat_below W x)).it).look keyedT Tryz.underlying47 Tryz.underlying21 (zero3 _) hkl
    have HBW := hide hbw
    have HZ0 := hide z0
    have HZ1 := hide z1
    have HZ2 := hide z2
    have HZ3 := hide z3
    have HZ4 := hide z4
    have HH1 := hide H1
    have HI := hide I
    clear H H1 I z0 z1 z2 z3 z4 hbw hbl hWd HBL
    cases hf : ft (f, g, h) with
    | some c =>
      obtain ⟨r, rfl, hr0, _, _, _, hr⟩ := HI.out.it _ _ _ _ hf
      rw [hf] at lk
      simp only [Option.getD_some, Option.isSome_some] at lk
      refine wp_region_lat (by kernel_rfl) (by kernel_rfl) ?_
      repeat (first | go_big_quiet_step ((fail)) | quiet_step ((fail)))
      refine wpQuiet_nil ?_
      intro _ hlat
      obtain ⟨wq, rfl⟩ := hlat
      go_wp2_with fail
      go_ret
      exact HE.out r hr _ (below_wide HBW.out (lat_below W wq))
    | none =>
      rw [hf] at lk
      simp only [Option.getD_none, Option.isSome_none] at lk
      refine wp_region_lat (by kernel_rfl) (by kernel_rfl) ?_
      repeat (first | go_big_quiet_step ((fail)) | quiet_step ((fail)))
      refine wpQuiet_nil ?_
      intro _ hlat
      obtain ⟨wq, rfl⟩ := hlat
      have hb2 := below_wide HBW.out (lat_below W wq)
      have z0 := heapB (lat_below W wq) HZ0.out
      have z1 := heapB (lat_below W wq) HZ1.out
      have z2 := heapB (lat_below W wq) HZ2.out
      have z3 := heapB (lat_below W wq) HZ3.out
      have z4 := heapB (lat_below W wq) HZ4.out
      have hs2 : w.heap.size + 5 ≤ (lat W wq).heap.size := by have := (lat_below W wq).size; omega
      have H2 := HH1.out.below (lat_below W wq)
      clear y0 y4 y5 y6 y7 lk HZ0 HZ1 HZ2 HZ3 HZ4 HH1 HBW
      generalize lat W wq = w2 at *
      obtain ⟨_, _, nf⟩ := d1.head hW
      obtain ⟨_, _, ng⟩ := d2.head hW
      obtain ⟨_, _, nh⟩ := d3.head hW
      have r1 : (f : Int) < s.nd.length := by omega
      have r2 : (g : Int) < s.nd.length := by omega
      have r3 : (h : Int) < s.nd.length := by omega
      have HS : Hid (∀ w', Below w2.heap.size w2 w' → w'.cell? ⟨w.heap.size, 0, none⟩ = some (.pointer (some ⟨k.p, 0, none⟩)) ∧ w'.cell? ⟨w.heap.size + 1, 0, none⟩ = some (.int .i32 f) ∧ w'.cell? ⟨w.heap.size + 1 + 1, 0, none⟩ = some (.int .i32 g) ∧ w'.cell? ⟨w.heap.size + 1 + 1 + 1, 0, none⟩ = some (.int .i32 h) ∧ w'.cell? ⟨k.p, 2, none⟩ = some (.slice (some ⟨k.g, 0, none⟩) s.nd.length k.c) ∧ w'.cell? ⟨k.g, f * 3, none⟩ = some (.int .i32 tf) ∧ w'.cell? ⟨k.g, g * 3, none⟩ = some (.int .i32 tg) ∧ w'.cell? ⟨k.g, h * 3, none⟩ = some (.int .i32 th)) :=
        fun w' hb => ⟨cell_heap (heapB hb z0) rfl, cell_heap (heapB hb z1) rfl, cell_heap (heapB hb z2) rfl, cell_heap (heapB hb z3) rfl, (H2.below hb).c2, ((H2.below hb).node nf).1, ((H2.below hb).node ng).1, ((H2.below hb).node nh).1⟩
      have hmin : ∀ (w' : World) ts ty, (Builtin.min_ ts ty #[.int .i32 tf, .int .i32 tg, .int .i32 th]).run Tryz.prog w' = .ok (.int .i32 (v : Nat)) w' := by
        intro w' ts ty
        rw [run_min_int3, hv]
        congr 2
        split <;> split <;> omega
      have HV := hide hv
      clear hv
      go_wp2_with fail
      go_region_held3 (fun w' => w'.cell? ⟨w.heap.size, 0, none⟩ = some (.pointer (some ⟨k.p, 0, none⟩)) ∧ w'.cell? ⟨w.heap.size + 1, 0, none⟩ = some (.int .i32 f) ∧ w'.cell? ⟨w.heap.size + 1 + 1, 0, none⟩ = some (.int .i32 g) ∧ w'.cell? ⟨w.heap.size + 1 + 1 + 1, 0, none⟩ = some (.int .i32 h) ∧ w'.cell? ⟨k.p, 2, none⟩ = some (.slice (some ⟨k.g, 0, none⟩) s.nd.length k.c) ∧ w'.cell? ⟨k.g, f * 3, none⟩ = some (.int .i32 tf) ∧ w'.cell? ⟨k.g, g * 3, none⟩ = some (.int .i32 tg) ∧ w'.cell? ⟨k.g, h * 3, none⟩ = some (.int .i32 th))
        (first | exact HS.out _ (Below.drew (Below.refl _ w2)) | exact HS.out _ (Below.alloc (Below.drew (Below.refl _ w2)) (Nat.le_refl _) _) | exact HS.out _ (Below.drew (Below.alloc (Below.refl _ w2) (Nat.le_refl _) _)) | exact HS.out _ (Below.setCell (Below.alloc (Below.drew (Below.refl _ w2)) (Nat.le_refl _) _) (Nat.le_refl _) _) | exact HS.out _ (Below.setCell (Below.drew (Below.alloc (Below.refl _ w2) (Nat.le_refl _) _)) (Nat.le_refl _) _))
        (fail)
      all_goals (
        have hb3 : Below w2.heap.size w2 (w2.alloc (Obj.cells #[.int .i32 v] 21)).drew := ((Below.refl _ w2).alloc (Nat.le_refl _) _).drew
        have HB3 := hide (below_wide hb2 hb3)
        have x0 := heapB hb3 z0
        have x1 := heapB hb3 z1
        have x2 := heapB hb3 z2
        have x3 := heapB hb3 z3
        have x4 := heapB hb3 z4
        have x5 : (w2.alloc (Obj.cells #[.int .i32 v] 21)).drew.heap[w2.heap.size]? = some (.cells #[.int .i32 v] 21 (0, 0)) := heap_new _ _
        generalize (w2.alloc (Obj.cells #[.int .i32 v] 21)).drew = w3 at *
        have HA3 := hide (HA.out.below HB3.out)
        clear hb3 HS hmin H2 nf ng nh r1 r2 r3 z0 z1 z2 z3 z4 hb2
        have c0 : w3.cell? ⟨w.heap.size, 0, none⟩ = some (.pointer (some ⟨k.p, 0, none⟩)) := cell_heap x0 rfl
        have c1 : w3.cell? ⟨w.heap.size + 1, 0, none⟩ = some (.int .i32 f) := cell_heap x1 rfl
        have c2 : w3.cell? ⟨w.heap.size + 1 + 1, 0, none⟩ = some (.int .i32 g) := cell_heap x2 rfl
        have c3 : w3.cell? ⟨w.heap.size + 1 + 1 + 1, 0, none⟩ = some (.int .i32 h) := cell_heap x3 rfl
        have c5 : w3.cell? ⟨w2.heap.size, 0, none⟩ = some (.int .i32 v) := cell_heap x5 rfl
        have HP1 := hide (part_any n hI S k s f g h tf tg th v F G H false w3 _ _ _ _ _ HA3.out d1 d2 d3 HV.out hv2 (by omega) (by omega) c0 c1 c5 c2 c3 (HF.out _ (by omega)) (HF.out _ (by omega)) (HF.out _ (by omega)) (HF.out _ (by omega)) (HF.out _ (by omega)))
        go_wp2_with fail
        refine HP1.out.mono ?_
        intro e w4 hh
        unfold NodeOut at hh
        obtain ⟨k1, s1, lo, he, hA4, T4, U4, m4, o4⟩ := hh
        subst he
        have hlt0 := lt_of_cell c0
        have hlt1 := lt_of_cell c1
        have hlt2 := lt_of_cell c2
        have hlt3 := lt_of_cell c3
        have hlt4 := lt_heap x4
        have hlt5 := lt_of_cell c5
        simp only at hlt0 hlt1 hlt2 hlt3 hlt5
        have f0 := HF.out w.heap.size (by omega)
        have f1 := HF.out (w.heap.size + 1) (by omega)
        have f2 := HF.out (w.heap.size + 1 + 1) (by omega)
        have f3 := HF.out (w.heap.size + 1 + 1 + 1) (by omega)
        have f4 := HF.out (w.heap.size + 4) (by omega)
        have f5 := HF.out w2.heap.size (by omega)
        have g0 := T4.fpn hlt0 f0
        have g1 := T4.fpn hlt1 f1
        have g2 := T4.fpn hlt2 f2
        have g3 := T4.fpn hlt3 f3
        have g4 := T4.fpn hlt4 f4
        have g5 := T4.fpn hlt5 f5
        have e0 : w4.drew.cell? ⟨w.heap.size, 0, none⟩ = some (.pointer (some ⟨k1.p, 0, none⟩)) := by rw [T4.p]; exact T4.cell c0 f0
        have e1 : w4.drew.cell? ⟨w.heap.size + 1, 0, none⟩ = some (.int .i32 f) := T4.cell c1 f1
        have e2 : w4.drew.cell? ⟨w.heap.size + 1 + 1, 0, none⟩ = some (.int .i32 g) := T4.cell c2 f2
        have e3 : w4.drew.cell? ⟨w.heap.size + 1 + 1 + 1, 0, none⟩ = some (.int .i32 h) := T4.cell c3 f3
        have e5 : w4.drew.cell? ⟨w2.heap.size, 0, none⟩ = some (.int .i32 v) := T4.cell c5 f5
        have hA4d := hA4.below ((Below.refl _ w4).drew)
        have HP2 := hide (part_any n hI S k1 s1 f g h tf tg th v F G H true w4.drew _ _ _ _ _ hA4d (d1.up U4) (d2.up U4) (d3.up U4) HV.out hv2 (by omega) (by omega) e0 e1 e5 e2 e3 g0 g1 g5 g2 g3)
        have x4' := hide (T4.heap x4 f4)
        have HT4 := hide (T4.trans (Turn.below (k := k1) ((Below.refl _ w4).drew)))
        have HSZ := hide T4.size
        have HO4 := hide o4
        have HU4 := hide U4
        have hk4 : w4.drew.cell? ⟨w.heap.size, 0, none⟩ = some (.pointer (some ⟨k.p, 0, none⟩)) ∧ w4.drew.cell? ⟨w2.heap.size, 0, none⟩ = some (.int .i32 v) := ⟨T4.cell c0 f0, T4.cell c5 f5⟩
        clear hA4 hA4d T4 U4 o4 HP1 c0 c1 c2 c3 c5 e0 e1 e2 e3 e5 x0 x1 x2 x3 x4 x5 HA3
        go_wp2_with fail
        go_region_held3 (fun w' => w'.cell? ⟨w.heap.size, 0, none⟩ = some (.pointer (some ⟨k.p, 0, none⟩)) ∧ w'.cell? ⟨w2.heap.size, 0, none⟩ = some (.int .i32 v))
          (first | exact hk4 | exact hk5 | exact hk6)
          (first
            | (go_at_call 94; with_reducible refine HP2.out.mono ?_; intro e w5 hh; unfold NodeOut at hh; obtain ⟨k2, s2, hi, he, hA5, T5, U5, m5, o5⟩ := hh; subst he; have hk5 := And.intro (T5.cell hk4.1 g0) (T5.cell hk4.2 g5); have HA5 := hide hA5; have HT5 := hide T5; have HU5 := hide U5; have HO5 := hide o5; clear hA5 T5 U5 o5)
            | (go_at_call 72; with_reducible refine (ite_mk hW d1 d2 d3 HV.out hv2 hS HU4.out HU5.out HO4.out HO5.out HA5.out (by omega) (HT5.out.p.trans HT4.out.p)).mono ?_; rintro e w6 ⟨k3, s3, r, he, hA6, T6, U6, m6, o6⟩; subst he; have hk6 := And.intro (T6.cell hk5.1 (HT5.out.fpn (lt_of_cell hk4.1) g0)) (T6.cell hk5.2 (HT5.out.fpn (lt_of_cell hk4.2) g5)); have HA6 := hide hA6; have HT6 := hide T6; have HU6 := hide U6; have HO6 := hide o6; clear hA6 T6 U6 o6))
        all_goals (
          go_wp2_with fail
          have x6 := hide (HT6.out.heap (HT5.out.heap x4'.out g4) (HT5.out.fpn (lt_heap x4'.out) g4))
          obtain ⟨fb6, ft6, H6, I6⟩ := HA6.out
          have hp3 : k3.p = k.p := HT6.out.p.trans (HT5.out.p.trans HT4.out.p)
          have u0 : w6.drew.cell? ⟨w.heap.size, 0, none⟩ = some (.pointer (some ⟨k.p, 0, none⟩)) := hk6.1
          have u1 : w6.drew.cell? ⟨k.p, 4, none⟩ = some (.map (some k3.it)) := by rw [← hp3]; exact H6.drew.c4
          have u2 : w6.drew.cell? ⟨w.heap.size + 4, 0, none⟩ = some (.int .i32 f) := cell_heap x6.out rfl
          have u3 : w6.drew.cell? ⟨w.heap.size + 4, 1, none⟩ = some (.int .i32 g) := cell_heap x6.out rfl
          have u4 : w6.drew.cell? ⟨w.heap.size + 4, 2, none⟩ = some (.int .i32 h) := cell_heap x6.out rfl
          have u5 : w6.drew.cell? ⟨w.heap.size + 1 + 1 + 1 + 1, 0, none⟩ = some (.int .i32 f) := cell_heap x6.out rfl
          have u6 : w6.drew.cell? ⟨w.heap.size + 1 + 1 + 1 + 1, 1, none⟩ = some (.int .i32 g) := cell_heap x6.out rfl
          have u7 : w6.drew.cell? ⟨w.heap.size + 1 + 1 + 1 + 1, 2, none⟩ = some (.int .i32 h) := cell_heap x6.out rfl
          have hU := (HU4.out.trans HU5.out).trans HU6.out
          obtain ⟨ex, hex⟩ := hU.nd
          have hrl : r < s3.nd.length := by
            obtain ⟨t, _, d⟩ := HO6.out S _ _ _ _ _ _ d1 d2 d3
            exact d.lt I6.wf
          have hl3 := hU.len
          have hnm3 := I6.nm
          have hI8 := hide (I6.memo (f := f) (g := g) (h := h) (by omega) (by omega) (by omega) hrl (by rw [hex]; exact OkIte.lift l1 l2 l3 (by rw [← hex]; exact HO6.out)))
          have HH6 := hide H6.drew
          have HTT := hide ((((Turn.below (k := k) HB3.out).trans HT4.out).trans HT5.out).trans (HT6.out.trans (Turn.below ((Below.refl _ w6).drew))))
          have HUU := hide hU
          clear H6 I6 hex hU
          have v1 : s3.m < maxLen := by unfold maxLen; omega
          have v2 : (Lit.int .i32 r).wf = true := wf3 (by omega) (by omega)
          go_still_tail 6, (by kernel_rfl)
          change wpList _ _ _ _ _ w6.drew
          generalize w6.drew = w7 at *
          go_wp2_with (at_mapUpdate; go_must (refine wpList_put rfl (.tmp 89) (.tmp 90) (.tmp 91) rfl HH6.out.it keyedT Tryz.underlying47 Tryz.underlying21 v1 encN_inj rfl (f, g, h) kl rfl hkl r rfl v2 ?_))
          intro w8 hmi hmt
          obtain ⟨H8, T8⟩ := HH6.out.itPut hmi hmt
          have HX := hide (show NodeOut k s w (2 ^ (nS S v + 1)) (fun nd' r => OkIte s.nd nd' f g h r) (.returned (.int .i32 (r : Nat))) w8 from
            ⟨k3, _, r, rfl, ⟨_, _, H8, hI8.out⟩, HTT.out.trans T8, ⟨HUU.out.vs, HUU.out.ms, HUU.out.gi, HUU.out.gn, HUU.out.he, HUU.out.hn, HUU.out.nd, Nat.le_succ_of_le HUU.out.m⟩, by simp only; omega, HO6.out⟩)
          clear hmi hmt H8 T8
          go_wp2_with fail
          go_ret
          exact HX.out))
theorem ite_all : ∀ n, IteAt n := by
  intro n
  induction n with
  | zero => intro S k s f g h tf tg th F G H w hn; omega
  | succ n ih => exact ite_step n ih
/-- g where f is true, else h -/
theorem ite_any (S : Nat → Bool) (k : Blk) (s : St) (f g h tf tg th : Nat) (F G H : Env → Bool) (w : World) (hA : Ar w k s) (d1 : Den S s.nd f tf F) (d2 : Den S s.nd g tg G) (d3 : Den S s.nd h th H) (hm : s.m + 2 ^ (nS S (min tf (min tg th)) + 1) ≤ 1000000000) :
    Calls Tryz.prog 73 #[.pointer (some ⟨k.p, 0, none⟩), .int .i32 f, .int .i32 g, .int .i32 h] w (NodeOut k s w (2 ^ (nS S (min tf (min tg th)) + 1)) (fun nd' r => OkIte s.nd nd' f g h r)) :=
  ite_all 257 S k s f g h tf tg th F G H w (by omega) hA d1 d2 d3 hm
end Go.Proofs.YtgfjdkkfgclhjaaGreat.Bd
/- Var, Ite, Not, And, Or. -/
namespace Go.Proofs.YtgfjdkkfgclhjaaGreat.Bd
open Go.RowKit Go.Proofs.YtgfjdkkfgclhjaaGreat Go.Proofs.YtgfjdkkfgclhjaaGreat.Lx Go.Maps

structure Adm (s : St) : Prop where
  ms : s.ms ≤ 4194304
  hn : s.hn ≤ 4194304
  gn : s.gn ≤ 900000000
  vs : s.vs ≤ 256
/-- a call that answers a node -/
def ApiOut (k : Blk) (s : St) (w : World) (room : Nat) (ok : List Nd → Nat → Prop) (e : Ending) (w' : World) : Prop :=
  ∃ k' s1 r, Up s s1 ∧ s1.m + 2 ≤ s.m + room ∧ ok s1.nd r ∧ Turn k k' w w' ∧ WF s1.nd ∧ r < s1.nd.length ∧
    ((s.ms < s.hn + (fresh s1 r).length ∧ e = .returned (.tuple #[.int .i64 0, .int .i64 3]) ∧ Ar w' k' s1) ∨
     (s.hn + (fresh s1 r).length ≤ s.ms ∧ e = .returned (.tuple #[.int .i64 (r : Nat), .int .i64 0]) ∧ Ar w' k' (s1.give r)))
theorem api_of {k k1 : Blk} {s s1 : St} {w w1 w' : World} {room r : Nat} {ok : List Nd → Nat → Prop} {e : Ending} (U : Up s s1) (hm : s1.m + 2 ≤ s.m + room) (ho : ok s1.nd r) (T : Turn k k1 w w1) (hw : WF s1.nd) (hr : r < s1.nd.length) (h : GiveOut k1 s1 r w1 e w') : ApiOut k s w room ok e w' := by
  rcases h with ⟨h1, h2, h3, h4⟩ | ⟨h1, h2, h3, h4⟩
  · exact ⟨k1, s1, r, U, hm, ho, T.trans h4, hw, hr, .inl ⟨by rw [← U.ms, ← U.hn]; exact h1, h2, h3⟩⟩
  · exact ⟨k1, s1, r, U, hm, ho, T.trans h4, hw, hr, .inr ⟨by rw [← U.ms, ← U.hn]; exact h1, h2, h3⟩⟩
theorem Ar.wf {w : World} {k : Blk} {s : St} (h : Ar w k s) : WF s.nd := by obtain ⟨_, _, _, I⟩ := h; exact I.wf
theorem Ar.nm {w : World} {k : Blk} {s : St} (h : Ar w k s) : s.nd.length ≤ s.m + 2 := by obtain ⟨_, _, _, I⟩ := h; exact I.nm
theorem give_up {k : Blk} {s s1 : St} {r : Nat} {w : World} (hA : Ar w k s1) (hr : r < s1.nd.length) (hm : s1.m + 2 ≤ 1000000000) (U : Up s s1) (ad : Adm s) :
    Calls Tryz.prog 71 #[.pointer (some ⟨k.p, 0, none⟩), .int .i32 r] w (GiveOut k s1 r w) :=
  give_any k s1 r w hA hr hm (by rw [U.ms]; exact ad.ms) (by rw [U.gn]; have := ad.gn; omega) (by rw [U.hn]; exact ad.hn)

set_option maxHeartbeats 1000000 in
set_option maxRecDepth 100000 in
theorem var_any (k : Blk) (s : St) (i : Nat) (w : World) (hA : Ar w k s) (ad : Adm s) (hi : i < s.vs) (hm : s.m + 3 ≤ 1000000000) :
    Calls Tryz.prog 54 #[.pointer (some ⟨k.p, 0, none⟩), .int .i64 i] w (ApiOut k s w 3 (fun nd' r => OkMk s.nd nd' i 0 1 r)) := by
  have hv := ad.vs
  have hW := hA.wf
  have c0 : w.cell? ⟨k.p, 0, none⟩ = some (.int .i64 s.vs) := by obtain ⟨_, _, H, _⟩ := hA; exact H.c0
  have HM := hide (mk_any k s i 0 1 w hA (by omega) (fun _ => true) 256 256 _ _ .zero .one (by omega) (by omega) (by omega) rfl)
  have HAD := hide ad
  have d1 : decide ((i : Int) < 0) = false := by simp
  have d2 : decide ((s.vs : Int) ≤ i) = false := by simp; omega
  clear ad
  go_enter Tryz.func54, Tryz.ntmps54
  go_wp2_with fail
  refine HM.out.mono ?_
  rintro e w1 ⟨k1, s1, r, rfl, hA1, T1, U1, m1, o1⟩
  have hr : r < s1.nd.length := by
    obtain ⟨t, _, d⟩ := o1 (fun _ => true) _ _ _ _ rfl .zero .one
    exact d.lt hA1.wf
  have HG := hide (give_up hA1 hr (by omega) U1 HAD.out)
  rw [T1.p] at HG
  have HU := hide U1
  have HO := hide o1
  have HT := hide T1
  have HW1 := hide hA1.wf
  clear hA1 U1 o1 T1 hA HM
  go_wp2_with fail
  refine HG.out.mono ?_
  intro e w2 hg
  have HX := hide (api_of HU.out (room := 3) (by omega) (ok := fun nd' r => OkMk s.nd nd' i 0 1 r) HO.out HT.out HW1.out hr hg)
  rcases hg with ⟨_, rfl, _⟩ | ⟨_, rfl, _⟩
  all_goals (
    go_wp2_with fail
    go_ret2
    exact HX.out)
theorem var_bad (k : Blk) (s : St) (i : Int) (w : World) (hA : Ar w k s) (hi : i < 0 ∨ s.vs ≤ i) :
    Calls Tryz.prog 54 #[.pointer (some ⟨k.p, 0, none⟩), .int .i64 i] w fun e w' => e = .returned (.tuple #[.int .i64 0, .int .i64 1]) ∧ w' = w := by
  have c0 : w.cell? ⟨k.p, 0, none⟩ = some (.int .i64 s.vs) := by obtain ⟨_, _, H, _⟩ := hA; exact H.c0
  cases d1 : decide (i < 0)
  · have d2 : decide ((s.vs : Int) ≤ i) = true := by have := of_decide_eq_false d1; simp; omega
    clear hA hi
    go_enter Tryz.func54, Tryz.ntmps54
    go_wp2_with fail
    go_ret2
    exact ⟨rfl, rfl⟩
  · clear hA hi
    go_enter Tryz.func54, Tryz.ntmps54
    go_wp2_with fail
    go_ret2
    exact ⟨rfl, rfl⟩

theorem cells3 (w : World) (a b c : Int) : ∀ (j : Nat) (x : Int), [a, b, c][j]? = some x → (w.alloc (.cells #[.int .i64 a, .int .i64 b, .int .i64 c] 3)).cell? ⟨w.heap.size, j, none⟩ = some (.int .i64 x) := by
  intro j x hx
  refine cell_heap (heap_new _ _) ?_
  match j, hx with
  | 0, hx => simpa using hx
  | 1, hx => simpa using hx
  | 2, hx => simpa using hx
  | j + 3, hx => simp at hx
set_option maxHeartbeats 1000000 in
set_option maxRecDepth 100000 in
/-- g where f is true, else h: of nodes that were given out -/
theorem Ite_any (S : Nat → Bool) (k : Blk) (s : St) (f g h tf tg th : Nat) (F G H : Env → Bool) (w : World) (hA : Ar w k s) (ad : Adm s) (g1 : s.gi f = true) (g2 : s.gi g = true) (g3 : s.gi h = true) (d1 : Den S s.nd f tf F) (d2 : Den S s.nd g tg G) (d3 : Den S s.nd h th H) (hm : s.m + 2 ^ (nS S (min tf (min tg th)) + 1) ≤ 1000000000) :
    Calls Tryz.prog 59 #[.pointer (some ⟨k.p, 0, none⟩), .int .i64 f, .int .i64 g, .int .i64 h] w (ApiOut k s w (2 ^ (nS S (min tf (min tg th)) + 1)) (fun nd' r => OkIte s.nd nd' f g h r)) := by
  have hW := hA.wf
  have hnm := hA.nm
  have l1 := d1.lt hW
  have l2 := d2.lt hW
  have l3 := d3.lt hW
  have hp : 2 ≤ 2 ^ (nS S (min tf (min tg th)) + 1) := by have := Nat.one_le_two_pow (n := nS S (min tf (min tg th))); rw [Nat.pow_succ]; omega
  have hbl := bel_one w (.cells #[.int .i64 f, .int .i64 g, .int .i64 h] 3)
  have HC := hide (check_any k s [(f : Int), g, h] w.heap.size _ (hA.below hbl) (cells3 w f g h) (by simp; omega) (by simp))
  have HGV := hide (gvn_all (s := s) (l := [(f : Int), g, h]) (by simp [g1, g2, g3]))
  have HI := hide (ite_any S k s f g h tf tg th F G H _ (hA.below hbl) d1 d2 d3 hm)
  have HBL := hide hbl
  have HAD := hide ad
  rw [show [(f : Int), g, h].length = 3 from rfl, HGV.out] at HC
  generalize 2 ^ (nS S (min tf (min tg th)) + 1) = room at *
  have HD := hide (And.intro d1 (And.intro d2 d3))
  clear hA g1 g2 g3 d1 d2 d3 hbl ad
  go_enter Tryz.func59, Tryz.ntmps59
  go_wp2_with fail
  refine HC.out.mono ?_
  rintro e w1 ⟨rfl, rfl⟩
  go_wp2_with fail
  refine HI.out.mono ?_
  intro e w2 hh
  unfold NodeOut at hh
  obtain ⟨k1, s1, r, rfl, hA1, T1, U1, m1, o1⟩ := hh
  have hr : r < s1.nd.length := by
    obtain ⟨t, _, d⟩ := o1 S _ _ _ _ _ _ HD.out.1 HD.out.2.1 HD.out.2.2
    exact d.lt hA1.wf
  have HG := hide (give_up hA1 hr (by omega) U1 HAD.out)
  rw [T1.p] at HG
  have HU := hide U1
  have HO := hide o1
  have HT := hide ((Turn.below (k := k) HBL.out).trans T1)
  have HW1 := hide hA1.wf
  clear hA1 U1 o1 T1 HI HC
  go_wp2_with fail
  refine HG.out.mono ?_
  intro e w3 hg
  have HX := hide (api_of HU.out m1 (ok := fun nd' r => OkIte s.nd nd' f g h r) HO.out HT.out HW1.out hr hg)
  rcases hg with ⟨_, rfl, _⟩ | ⟨_, rfl, _⟩
  all_goals (
    go_wp2_with fail
    go_ret2
    exact HX.out)
end Go.Proofs.YtgfjdkkfgclhjaaGreat.Bd
/- each: a function is made anew, from the last variable up: its walk. -/
namespace Go.Proofs.YtgfjdkkfgclhjaaGreat.Bd
open Go.RowKit Go.Proofs.YtgfjdkkfgclhjaaGreat Go.Proofs.YtgfjdkkfgclhjaaGreat.Lx Go.Maps

/-- all but the arena's own blocks and block d is as it was -/
structure TurnX (d : Nat) (k k' : Blk) (w w' : World) : Prop where
  os : w'.os = w.os
  tape : w'.tape = w.tape
  output : w'.output = w.output
  size : w.heap.size ≤ w'.heap.size
  p : k'.p = k.p
  bm : k'.bm = k.bm
  it : k'.it = k.it
  gi : k'.gi = k.gi
  he : k'.he = k.he
  row : k'.g = k.g ∨ w.heap.size ≤ k'.g
  block : ∀ i, i < w.heap.size → ¬ fp k i → i ≠ d → w'.heap[i]? = w.heap[i]?
theorem Turn.x {k k' : Blk} {w w' : World} (h : Turn k k' w w') (d : Nat) : TurnX d k k' w w' := ⟨h.os, h.tape, h.output, h.size, h.p, h.bm, h.it, h.gi, h.he, h.row, fun i hi hf _ => h.block i hi hf⟩
theorem TurnX.fpn {d : Nat} {k k' : Blk} {w w' : World} (h : TurnX d k k' w w') {i : Nat} (hi : i < w.heap.size) (hf : ¬ fp k i) : ¬ fp k' i := by
  intro hf'
  apply hf
  unfold fp at hf' ⊢
  rw [h.p, h.bm, h.it, h.gi, h.he] at hf'
  rcases hf' with e | e | e
  · exact .inl e
  · rcases h.row with e' | e'
    · exact .inr (.inl (by omega))
    · omega
  · exact .inr (.inr e)
theorem TurnX.trans {d : Nat} {k k' k2 : Blk} {w w' w2 : World} (h : TurnX d k k' w w') (h2 : TurnX d k' k2 w' w2) : TurnX d k k2 w w2 := by
  have hs := h.size
  refine ⟨h2.os.trans h.os, h2.tape.trans h.tape, h2.output.trans h.output, Nat.le_trans h.size h2.size, h2.p.trans h.p, h2.bm.trans h.bm, h2.it.trans h.it, h2.gi.trans h.gi, h2.he.trans h.he, ?_, fun i hi hf hd => (h2.block i (by omega) (h.fpn hi hf) hd).trans (h.block i hi hf hd)⟩
  rcases h2.row with e | e
  · rcases h.row with e' | e'
    · exact .inl (e.trans e')
    · exact .inr (by omega)
  · exact .inr (by omega)
theorem TurnX.heap {d : Nat} {k k' : Blk} {w w' : World} (h : TurnX d k k' w w') {i : Nat} {o : Obj} (hc : w.heap[i]? = some o) (hf : ¬ fp k i) (hd : i ≠ d) : w'.heap[i]? = some o := (h.block _ (lt_heap hc) hf hd).trans hc
theorem TurnX.turn {d : Nat} {k0 k k' : Blk} {w0 w w' : World} (T : Turn k0 k w0 w) (h : TurnX d k k' w w') (hd : w0.heap.size ≤ d) : Turn k0 k' w0 w' := by
  have hs := T.size
  refine ⟨h.os.trans T.os, h.tape.trans T.tape, h.output.trans T.output, Nat.le_trans T.size h.size, h.p.trans T.p, h.bm.trans T.bm, h.it.trans T.it, h.gi.trans T.gi, h.he.trans T.he, ?_, fun i hi hf => (h.block i (by omega) (T.fpn hi hf) (by omega)).trans (T.block i hi hf)⟩
  rcases h.row with e | e
  · rcases T.row with e' | e'
    · exact .inl (e.trans e')
    · exact .inr (by omega)
  · exact .inr (by omega)
theorem TurnX.map {d : Nat} {k : Blk} {w w' : World} (h : w.mapTurned w' d) : TurnX d k k w w' :=
  ⟨h.grown.os, h.grown.tape, h.grown.output, h.grown.size, rfl, rfl, rfl, rfl, rfl, .inl rfl, fun i hi _ hd => h.grown.block i hi (fun e => hd (by injection e))⟩
theorem TurnX.below {d : Nat} {k : Blk} {w w' : World} (h : Below w.heap.size w w') : TurnX d k k w w' := (Turn.below h).x d
/-- a map that lies outside of what may turn -/
theorem MInt.block {P : Program} {w w' : World} {kt e : TypeId} {q : IntKind} {b n : Nat} {α : Type} {en : α → Value} {f : α → Option Int} (h : MInt P w kt e q b n en f) (hos : w'.os = w.os) (ht : w'.tape = w.tape) (ho : w'.output = w.output) (hs : w.heap.size ≤ w'.heap.size) (hb : w'.heap[b]? = w.heap[b]?) : MInt P w' kt e q b n en f := by
  -- every other block may have turned: as if the map were the only one that the world keeps
  obtain ⟨D, h1, h2⟩ := h
  obtain ⟨es, cl, hh, F, hs', hD⟩ := h1
  exact ⟨D, ⟨es, cl, hb.trans hh, F, hs', hD⟩, h2⟩
theorem MInt.x {d : Nat} {k k' : Blk} {w w' : World} {kt e : TypeId} {q : IntKind} {b n : Nat} {α : Type} {en : α → Value} {f : α → Option Int} (h : MInt Tryz.prog w kt e q b n en f) (T : TurnX d k k' w w') (hf : ¬ fp k b) (hd : b ≠ d) : MInt Tryz.prog w' kt e q b n en f :=
  h.block T.os T.tape T.output T.size (T.block b h.lt hf hd)
theorem MInt.turn {k k' : Blk} {w w' : World} {kt e : TypeId} {q : IntKind} {b n : Nat} {α : Type} {en : α → Value} {f : α → Option Int} (h : MInt Tryz.prog w kt e q b n en f) (T : Turn k k' w w') (hf : ¬ fp k b) : MInt Tryz.prog w' kt e q b n en f :=
  h.block T.os T.tape T.output T.size (T.block b h.lt hf)

/-! ### what is asked of a function that makes -/
/-- node r is what becomes of node i -/
def GoodAt (S : Nat → Bool) (nd0 : List Nd) (S' : Nat → Nat → Bool) (bd : Nat → Nat → Prop) (T : (Env → Bool) → Env → Bool) (nd' : List Nd) (i r : Nat) : Prop :=
  ∀ t F, Den S nd0 i t F → ∃ t', bd t t' ∧ Den (S' t) nd' r t' (T F)
theorem GoodAt.append {S : Nat → Bool} {nd0 : List Nd} {S' : Nat → Nat → Bool} {bd : Nat → Nat → Prop} {T : (Env → Bool) → Env → Bool} {nd' ex : List Nd} {i r : Nat} (h : GoodAt S nd0 S' bd T nd' i r) : GoodAt S nd0 S' bd T (nd' ++ ex) i r := by
  intro t F d
  obtain ⟨t', h1, h2⟩ := h t F d
  exact ⟨t', h1, h2.append⟩
theorem GoodAt.up {S : Nat → Bool} {nd0 : List Nd} {S' : Nat → Nat → Bool} {bd : Nat → Nat → Prop} {T : (Env → Bool) → Env → Bool} {s s' : St} {i r : Nat} (h : GoodAt S nd0 S' bd T s.nd i r) (hu : Up s s') : GoodAt S nd0 S' bd T s'.nd i r := by
  obtain ⟨ex, e⟩ := hu.nd
  rw [e]; exact h.append
def MadeOK (S : Nat → Bool) (nd0 : List Nd) (S' : Nat → Nat → Bool) (bd : Nat → Nat → Prop) (T : (Env → Bool) → Env → Bool) (k0 : Blk) (w0 : World) (M : FuncId) (caps : Array Value) : Prop :=
  ∀ (k : Blk) (s : St) (w : World) (v tl th r1 r2 t1 t2 : Nat) (Fl Fh : Env → Bool), Turn k0 k w0 w → Ar w k s → (∃ ex, s.nd = nd0 ++ ex) → v < 256 → S v = true → v < tl → v < th → bd tl t1 → Den (S' tl) s.nd r1 t1 (T Fl) → bd th t2 → Den (S' th) s.nd r2 t2 (T Fh) →
    (∀ ρ ρ' : Env, (∀ x, v < x → x < 256 → ρ x = ρ' x) → Fl ρ = Fl ρ') → (∀ ρ ρ' : Env, (∀ x, v < x → x < 256 → ρ x = ρ' x) → Fh ρ = Fh ρ') → s.m + 2 ^ (nS S v + 2) ≤ 1000000000 →
    Calls Tryz.prog M (#[.int .i32 v, .int .i32 r1, .int .i32 r2] ++ caps) w (NodeOut k s w (2 ^ (nS S v + 2)) (fun nd' r => ∃ t', bd v t' ∧ Den (S' v) nd' r t' (T (fun ρ => if ρ v then Fh ρ else Fl ρ))))
structure DoneOK (S : Nat → Bool) (nd0 : List Nd) (S' : Nat → Nat → Bool) (bd : Nat → Nat → Prop) (T : (Env → Bool) → Env → Bool) (nd' : List Nd) (fd : Int → Option Int) : Prop where
  d0 : fd 0 = some 0
  d1 : fd 1 = some 1
  all : ∀ x c, fd x = some c → ∃ i r : Nat, x = i ∧ c = r ∧ r < nd'.length ∧ GoodAt S nd0 S' bd T nd' i r
theorem DoneOK.up {S : Nat → Bool} {nd0 : List Nd} {S' : Nat → Nat → Bool} {bd : Nat → Nat → Prop} {T : (Env → Bool) → Env → Bool} {s s' : St} {fd : Int → Option Int} (h : DoneOK S nd0 S' bd T s.nd fd) (hu : Up s s') : DoneOK S nd0 S' bd T s'.nd fd := by
  refine ⟨h.d0, h.d1, fun x c hc => ?_⟩
  obtain ⟨i, r, h1, h2, h3, h4⟩ := h.all x c hc
  exact ⟨i, r, h1, h2, by have := hu.len; omega, h4.up hu⟩
theorem DoneOK.put {S : Nat → Bool} {nd0 : List Nd} {S' : Nat → Nat → Bool} {bd : Nat → Nat → Prop} {T : (Env → Bool) → Env → Bool} {nd' : List Nd} {fd : Int → Option Int} (h : DoneOK S nd0 S' bd T nd' fd) {i r : Nat} (h2 : 2 ≤ i) (hr : r < nd'.length) (hg : GoodAt S nd0 S' bd T nd' i r) : DoneOK S nd0 S' bd T nd' (fun x => if x = (i : Int) then some (r : Int) else fd x) := by
  refine ⟨by rw [if_neg (by omega)]; exact h.d0, by rw [if_neg (by omega)]; exact h.d1, fun x c hc => ?_⟩
  split at hc
  · rename_i e
    cases hc
    exact ⟨i, r, e, rfl, hr, hg⟩
  · exact h.all x c hc
/-- what the walk has in memory -/
structure Es (w : World) (p b1 b2 b3 b4 db N : Nat) (M : FuncId) (caps : Array Value) (fd : Int → Option Int) : Prop where
  c1 : w.heap[b1]? = some (.cells #[.map (some db)] 120 (0, 0))
  c2 : w.heap[b2]? = some (.cells #[.pointer (some ⟨p, 0, none⟩)] 24 (0, 0))
  c3 : w.heap[b3]? = some (.cells #[.func (.func 95) #[] #[.pointer (some ⟨b1, 0, none⟩), .pointer (some ⟨b2, 0, none⟩), .pointer (some ⟨b3, 0, none⟩), .pointer (some ⟨b4, 0, none⟩)]] 137 (0, 0))
  c4 : w.heap[b4]? = some (.cells #[.func (.func M) #[] caps] 116 (0, 0))
  done : MInt Tryz.prog w 21 21 .i32 db N enc3 fd
structure Apart (k : Blk) (base b1 b2 b3 b4 db : Nat) : Prop where
  n1 : ¬ fp k b1
  n2 : ¬ fp k b2
  n3 : ¬ fp k b3
  n4 : ¬ fp k b4
  nd : ¬ fp k db
  l1 : base ≤ db
theorem Es.lt {w : World} {p b1 b2 b3 b4 db N : Nat} {M : FuncId} {caps : Array Value} {fd : Int → Option Int} (E : Es w p b1 b2 b3 b4 db N M caps fd) : b1 < w.heap.size ∧ b2 < w.heap.size ∧ b3 < w.heap.size ∧ b4 < w.heap.size ∧ db < w.heap.size := ⟨lt_heap E.c1, lt_heap E.c2, lt_heap E.c3, lt_heap E.c4, E.done.lt⟩
theorem Es.ne {w : World} {p b1 b2 b3 b4 db N : Nat} {M : FuncId} {caps : Array Value} {fd : Int → Option Int} (E : Es w p b1 b2 b3 b4 db N M caps fd) : b1 ≠ db ∧ b2 ≠ db ∧ b3 ≠ db ∧ b4 ≠ db := by
  obtain ⟨_, _, h⟩ := E.done.heap
  exact ⟨ne_kind E.c1 h, ne_kind E.c2 h, ne_kind E.c3 h, ne_kind E.c4 h⟩
theorem Es.x {w w' : World} {k k' : Blk} {p b1 b2 b3 b4 db N N' base : Nat} {M : FuncId} {caps : Array Value} {fd fd' : Int → Option Int} (E : Es w p b1 b2 b3 b4 db N M caps fd) (A : Apart k base b1 b2 b3 b4 db) (T : TurnX db k k' w w') (hd : MInt Tryz.prog w' 21 21 .i32 db N' enc3 fd') :
    Es w' p b1 b2 b3 b4 db N' M caps fd' ∧ Apart k' base b1 b2 b3 b4 db := by
  obtain ⟨e1, e2, e3, e4⟩ := E.ne
  obtain ⟨l1, l2, l3, l4, l5⟩ := E.lt
  exact ⟨⟨T.heap E.c1 A.n1 e1, T.heap E.c2 A.n2 e2, T.heap E.c3 A.n3 e3, T.heap E.c4 A.n4 e4, hd⟩, ⟨T.fpn l1 A.n1, T.fpn l2 A.n2, T.fpn l3 A.n3, T.fpn l4 A.n4, T.fpn l5 A.nd, A.l1⟩⟩
theorem Es.t {w w' : World} {k k' : Blk} {p b1 b2 b3 b4 db N base : Nat} {M : FuncId} {caps : Array Value} {fd : Int → Option Int} (E : Es w p b1 b2 b3 b4 db N M caps fd) (A : Apart k base b1 b2 b3 b4 db) (T : Turn k k' w w') :
    Es w' p b1 b2 b3 b4 db N M caps fd ∧ Apart k' base b1 b2 b3 b4 db := E.x A (T.x db) (E.done.turn T A.nd)
/-- what the walk over a node answers -/
def WalkOut (S : Nat → Bool) (nd0 : List Nd) (S' : Nat → Nat → Bool) (bd : Nat → Nat → Prop) (T : (Env → Bool) → Env → Bool) (k : Blk) (s : St) (w : World) (db N n f : Nat) (e : Ending) (w' : World) : Prop :=
  ∃ (k' : Blk) (s' : St) (r N' : Nat) (fd' : Int → Option Int), e = .returned (.int .i32 (r : Nat)) ∧ Ar w' k' s' ∧ Up s s' ∧ s'.m ≤ s.m + n * 2 ^ (n + 2) ∧ N' + 1 ≤ N + 2 ^ n ∧ TurnX db k k' w w' ∧ MInt Tryz.prog w' 21 21 .i32 db N' enc3 fd' ∧ DoneOK S nd0 S' bd T s'.nd fd' ∧ r < s'.nd.length ∧ GoodAt S nd0 S' bd T s'.nd f r
def WalkAt (S : Nat → Bool) (nd0 : List Nd) (S' : Nat → Nat → Bool) (bd : Nat → Nat → Prop) (T : (Env → Bool) → Env → Bool) (k0 : Blk) (w0 : World) (M : FuncId) (caps : Array Value) (b1 b2 b3 b4 db n : Nat) : Prop :=
  ∀ (f t : Nat) (F : Env → Bool) (k : Blk) (s : St) (w : World) (N : Nat) (fd : Int → Option Int), f < n → Den S nd0 f t F → Ar w k s → (∃ ex, s.nd = nd0 ++ ex) → Turn k0 k w0 w → Es w k.p b1 b2 b3 b4 db N M caps fd → DoneOK S nd0 S' bd T s.nd fd → Apart k w0.heap.size b1 b2 b3 b4 db → s.m + nS S t * 2 ^ (nS S t + 2) ≤ 1000000000 → N + 2 ^ nS S t ≤ 2000000000 →
    Calls Tryz.prog 95 #[.int .i32 f, .pointer (some ⟨b1, 0, none⟩), .pointer (some ⟨b2, 0, none⟩), .pointer (some ⟨b3, 0, none⟩), .pointer (some ⟨b4, 0, none⟩)] w (WalkOut S nd0 S' bd T k s w db N (nS S t) f)
end Go.Proofs.YtgfjdkkfgclhjaaGreat.Bd
/- each: the walk, made. -/
namespace Go.Proofs.YtgfjdkkfgclhjaaGreat.Bd
open Go.RowKit Go.Proofs.YtgfjdkkfgclhjaaGreat Go.Proofs.YtgfjdkkfgclhjaaGreat.Lx Go.Maps

theorem walk_room {a n : Nat} : (n + 1) * 2 ^ (n + 1 + 2) = 2 * (n * 2 ^ (n + 2)) + 2 ^ (n + 1 + 2) ∧ 2 ^ (n + 1) = 2 * 2 ^ n ∧ 1 ≤ 2 ^ n := by
  refine ⟨?_, by rw [Nat.pow_succ]; omega, Nat.one_le_two_pow⟩
  rw [show n + 1 + 2 = (n + 2) + 1 by omega, Nat.pow_succ, Nat.add_mul, Nat.one_mul, ← Nat.mul_assoc, Nat.mul_comm (n * 2 ^ (n + 2)) 2]
theorem room_mono {a b : Nat} (h : a ≤ b) : a * 2 ^ (a + 2) ≤ b * 2 ^ (b + 2) ∧ 2 ^ a ≤ 2 ^ b := ⟨Nat.mul_le_mul h (Nat.pow_le_pow_right (by omega) (by omega)), Nat.pow_le_pow_right (by omega) h⟩

/-- an arena doesn't see another map -/
theorem hA4x {w w' : World} {k : Blk} {s : St} {p b1 b2 b3 b4 db N base : Nat} {M : FuncId} {caps : Array Value} {fd : Int → Option Int} (h : Ar w k s) (E : Es w p b1 b2 b3 b4 db N M caps fd) (A : Apart k base b1 b2 b3 b4 db) (hmt : w.mapTurned w' db) : Ar w' k s := by
  obtain ⟨fb, ft, H, I⟩ := h
  exact ⟨fb, ft, H.kept hmt.grown (fun b e => by injection e with e; subst e; exact A.nd), I⟩
theorem made_call {S : Nat → Bool} {nd0 : List Nd} {S' : Nat → Nat → Bool} {bd : Nat → Nat → Prop} {T : (Env → Bool) → Env → Bool} {k0 k2 k3 : Blk} {w0 wd w3 : World} {M : FuncId} {caps : Array Value} {db t lo hi tl th x1 x2 : Nat} {Fl Fh : Env → Bool} {s2 s3 : St} (HM : MadeOK S nd0 S' bd T k0 w0 M caps) (hA3 : Ar w3 k3 s3) (U3 : Up s2 s3) (hex : ∃ ex, s2.nd = nd0 ++ ex)
    (X3 : TurnX db k2 k3 wd w3) (T2 : Turn k0 k2 w0 wd) (hdb : w0.heap.size ≤ db) (g1 : GoodAt S nd0 S' bd T s2.nd lo x1) (g2 : GoodAt S nd0 S' bd T s3.nd hi x2) (dl : Den S nd0 lo tl Fl) (dh : Den S nd0 hi th Fh) (h1 : t < tl) (h2 : t < th) (ht : t < 256) (hS : S t = true) (hm : s3.m + 2 ^ (nS S t + 2) ≤ 1000000000) :
    Calls Tryz.prog M (#[.int .i32 t, .int .i32 x1, .int .i32 x2] ++ caps) w3 (NodeOut k3 s3 w3 (2 ^ (nS S t + 2)) (fun nd' r => ∃ t', bd t t' ∧ Den (S' t) nd' r t' (T (fun ρ => if ρ t then Fh ρ else Fl ρ)))) := by
  obtain ⟨ex, hex⟩ := hex
  obtain ⟨ex3, hex3⟩ := U3.nd
  obtain ⟨t1, b1, d1⟩ := g1.up U3 tl Fl dl
  obtain ⟨t2, b2, d2⟩ := g2 th Fh dh
  exact HM k3 s3 w3 t tl th x1 x2 t1 t2 Fl Fh (X3.turn T2 hdb) hA3 ⟨ex ++ ex3, by rw [hex3, hex, List.append_assoc]⟩ ht hS h1 h2 b1 d1 b2 d2 (fun ρ ρ' h => dl.indep ρ ρ' (fun x hx => h x (by omega))) (fun ρ ρ' h => dh.indep ρ ρ' (fun x hx => h x (by omega))) hm

set_option maxHeartbeats 8000000 in
set_option maxRecDepth 100000 in
theorem walk_step (S : Nat → Bool) (nd0 : List Nd) (S' : Nat → Nat → Bool) (bd : Nat → Nat → Prop) (T : (Env → Bool) → Env → Bool) (k0 : Blk) (w0 : World) (M : FuncId) (caps : Array Value) (b1 b2 b3 b4 db n : Nat) (HM : Hid (MadeOK S nd0 S' bd T k0 w0 M caps)) (hW0 : WF nd0) (hcall : ∀ (xs : Array Value) (w : World), (callFunc M xs).run Tryz.prog w = .ok (.enter M xs) w) (IH : WalkAt S nd0 S' bd T k0 w0 M caps b1 b2 b3 b4 db n) : WalkAt S nd0 S' bd T k0 w0 M caps b1 b2 b3 b4 db (n + 1) := by
  intro f t F k s w N fd hfn d hA hex hT hE hD hAp hm hN
  obtain ⟨ex, hex⟩ := hex
  obtain ⟨fb, ft, H, I⟩ := hA
  have hnm := I.nm
  have hlen : nd0.length ≤ s.nd.length := by rw [hex, List.length_append]; omega
  have hfl : f < nd0.length := d.lt hW0
  have hrm := (room_mono (Nat.zero_le (nS S t))).1
  have k1 := cell_heap (j := 0) hE.c1 rfl
  have lk : (Instr.lookup 120 (.map (some db)) (.int .i32 f) true).run Tryz.prog w = .ok (.tuple #[.int .i32 ((fd f).getD 0), .bool (fd f).isSome]) w :=
    hE.done.look keyed3 Tryz.underlying120 Tryz.underlying21 (zero3 _) (key3 f (by omega) (by omega))
  cases hf : fd f with
  | some c =>
    obtain ⟨i, r, e1, rfl, hr, hg⟩ := hD.all _ _ hf
    have e1 : i = f := by omega
    subst e1
    rw [hf] at lk
    simp only [Option.getD_some, Option.isSome_some] at lk
    have HX := hide (show WalkOut S nd0 S' bd T k s w db N (nS S t) i (.returned (.int .i32 (r : Nat))) w from ⟨k, s, r, N, fd, rfl, ⟨fb, ft, H, I⟩, Up.refl _, by omega, by have := Nat.one_le_two_pow (n := nS S t); omega, TurnX.below (Below.refl _ w), hE.done, hD, hr, hg⟩)
    clear H I hE hD hT hAp IH d hg hex
    go_enter Tryz.func95, Tryz.ntmps95
    go_wp2_with fail
    go_ret
    exact HX.out
  | none =>
    have h2 : 2 ≤ f := by
      rcases (by omega : f = 0 ∨ f = 1 ∨ 2 ≤ f) with rfl | rfl | h
      · have := hD.d0; rw [show ((0 : Nat) : Int) = 0 from rfl] at hf; rw [hf] at this; cases this
      · have := hD.d1; rw [show ((1 : Nat) : Int) = 1 from rfl] at hf; rw [hf] at this; cases this
      · exact h
    obtain ⟨lo, hi, tl, th, Fl, Fh, hr, r1, r2, r3, r4, r5, r6, r7, dl, dh, rfl⟩ := d.row h2
    rw [hf] at lk
    simp only [Option.getD_none, Option.isSome_none] at lk
    have hx : s.nd[f]? = some (t, lo, hi) := by rw [hex, List.getElem?_append_left hfl]; exact hr
    obtain ⟨n0, n1, n2⟩ := H.node hx
    have c2 := H.c2
    have kk2 := cell_heap (j := 0) hE.c2 rfl
    have hfi : (f : Int) < s.nd.length := by omega
    -- the room
    obtain ⟨m, hmS⟩ : ∃ m, m = nS S (t + 1) := ⟨_, rfl⟩
    have hst := nS_step S r6
    rw [r7, if_pos rfl, ← hmS, Nat.add_comm] at hst
    have ml := nS_le S (show t + 1 ≤ tl by omega)
    have mh := nS_le S (show t + 1 ≤ th by omega)
    rw [← hmS] at ml mh
    obtain ⟨q1, q2, q3⟩ := walk_room (a := 0) (n := m)
    rw [hst] at hm hN ⊢
    rw [q1] at hm
    rw [q2] at hN
    have ql := room_mono ml
    have qh := room_mono mh
    have HQ1 := hide q1
    have HQ2 := hide q2
    have HMS := hide hmS
    have HST := hide hst
    generalize hP : 2 ^ (m + 1 + 2) = P at hm
    generalize hR : m * 2 ^ (m + 2) = R at hm ql qh
    generalize hE2 : 2 ^ m = E2 at hN ql qh q3
    have HP := hide hP
    have HR := hide hR
    have HE2 := hide hE2
    -- what the walk holds
    have hbl := bel_one w (.cells #[.int .i32 t, .int .i32 lo, .int .i32 hi] 44)
    obtain ⟨E1, A1⟩ := hE.t hAp (Turn.below (k := k) hbl)
    have z0 := heap_new w (.cells #[.int .i32 t, .int .i32 lo, .int .i32 hi] 44)
    have hA1 : Ar (w.alloc (.cells #[.int .i32 t, .int .i32 lo, .int .i32 hi] 44)) k s := ⟨fb, ft, H.below hbl, I⟩
    have T1 := hT.trans (Turn.below (k := k) hbl)
    have hnf : ¬ fp k w.heap.size := fun hf => by have := H.lt _ hf; omega
    have hnd : w.heap.size ≠ db := by have := hE.done.lt; omega
    have hdb := hAp.l1
    have HC1 := hide (IH lo tl Fl k s _ N fd (by omega) dl hA1 ⟨ex, hex⟩ T1 E1 hD A1 (by omega) (by omega))
    have kk3 := cell_heap (j := 0) E1.c3 rfl
    have HXB := hide (TurnX.below (d := db) (k := k) hbl)
    have HZ0 := hide z0
    have HE1 := hide E1
    have HA1 := hide A1
    have HT1 := hide T1
    have HIH := hide IH
    have HDD := hide (And.intro d (And.intro dl dh))
    have HEX := hide hex
    have y1 := cell_heap (j := 1) z0 rfl
    clear E1 A1 hA1 T1 hE hAp hT hD z0 hbl IH d dl dh hex hmS hst q1 q2 hP hR hE2 hx
    go_enter Tryz.func95, Tryz.ntmps95
    go_wp2_with fail
    refine HC1.out.mono ?_
    intro e w2 hh
    unfold WalkOut at hh
    obtain ⟨k2, s2, x1, N2, fd2, rfl, hA2, hU2, hm2, hN2, hX2, hd2, hD2, hr2, hg2⟩ := hh
    obtain ⟨E2', A2⟩ := HE1.out.x HA1.out hX2 hd2
    have z2 := hX2.heap HZ0.out hnf hnd
    have hf2 := hX2.fpn (lt_heap HZ0.out) hnf
    have T2 := hX2.turn HT1.out hdb
    have hlen2 := hU2.len
    obtain ⟨ex2, hex2⟩ := hU2.nd
    have hex2' : ∃ ex, s2.nd = nd0 ++ ex := ⟨ex ++ ex2, by rw [hex2, HEX.out, List.append_assoc]⟩
    have hdr := (Below.refl w2.heap.size w2).drew
    have a2d := hA2.below hdr
    obtain ⟨E2d, A2d⟩ := E2'.t A2 (Turn.below (k := k2) hdr)
    have T2d := T2.trans (Turn.below (k := k2) hdr)
    have HC2 := hide (HIH.out hi th Fh k2 s2 _ N2 fd2 (by omega) HDD.out.2.2 a2d hex2' T2d (by rw [hX2.p]; exact E2d) hD2 A2d (by omega) (by omega))
    have hk2 : w2.drew.cell? ⟨b4, 0, none⟩ = some (.func (.func M) #[] caps) ∧ w2.drew.cell? ⟨w.heap.size, 0, none⟩ = some (.int .i32 t) ∧ w2.drew.cell? ⟨b3, 0, none⟩ = some (.func (.func 95) #[] #[.pointer (some ⟨b1, 0, none⟩), .pointer (some ⟨b2, 0, none⟩), .pointer (some ⟨b3, 0, none⟩), .pointer (some ⟨b4, 0, none⟩)]) ∧ w2.drew.cell? ⟨w.heap.size, 2, none⟩ = some (.int .i32 hi) := ⟨cell_heap E2'.c4 rfl, cell_heap z2 rfl, cell_heap E2'.c3 rfl, cell_heap z2 rfl⟩
    clear n0 n1 n2 c2 k1 kk2 lk kk3 y1
    go_wp2_with fail
    have hX2d := hX2.trans (TurnX.below (d := db) (k := k2) hdr)
    have HX2 := hide hX2d
    have HU2 := hide hU2
    have HM2 := hide hm2
    have HN2 := hide hN2
    have HG2 := hide hg2
    have HHd := hide hr
    have HF2 := hide hf2
    have HA2d := hide A2d
    have HE2d := hide E2d
    have HT2d := hide T2d
    have HX2p := hide hX2.p
    have HLE := hide hex2'
    have Hz2 := hide (show w2.drew.heap[w.heap.size]? = some _ from z2)
    clear hA2 hX2 hm2 hN2 hU2 hd2 hD2 hg2 E2' A2 z2 T2 hex2 hex2' a2d E2d A2d T2d hX2d HC1 hr hf2
    have HB : Hid (∀ a3 : Nat, s2.m ≤ s.m + nS S tl * 2 ^ (nS S tl + 2) → a3 ≤ s2.m + nS S th * 2 ^ (nS S th + 2) → a3 + 2 ^ (nS S t + 2) ≤ 1000000000) := by
      intro a3 h1 h2
      rw [HST.out, HP.out]
      omega
    have hwd : w.heap.size < w2.drew.heap.size := lt_heap Hz2.out
    go_region_held3 (fun w' => w'.cell? ⟨b4, 0, none⟩ = some (.func (.func M) #[] caps) ∧ w'.cell? ⟨w.heap.size, 0, none⟩ = some (.int .i32 t) ∧ w'.cell? ⟨b3, 0, none⟩ = some (.func (.func 95) #[] #[.pointer (some ⟨b1, 0, none⟩), .pointer (some ⟨b2, 0, none⟩), .pointer (some ⟨b3, 0, none⟩), .pointer (some ⟨b4, 0, none⟩)]) ∧ w'.cell? ⟨w.heap.size, 2, none⟩ = some (.int .i32 hi))
      (first | exact hk2 | exact hk3 | exact hk4)
      (first
        | (go_at_call 95; (with_reducible refine HC2.out.mono ?_); intro e w3 hh; unfold WalkOut at hh; obtain ⟨k3, s3, x2, N3, fd3, he, hA3, hU3, hm3, hN3, hX3, hd3, hD3, hr3, hg3⟩ := hh; subst he; obtain ⟨E3', A3⟩ := HE2d.out.x HA2d.out hX3 hd3; have z3 := hX3.heap Hz2.out HF2.out hnd; have hf3 := hX3.fpn hwd HF2.out; have hk3 := And.intro (cell_heap (j := 0) E3'.c4 rfl) (And.intro (cell_heap (j := 0) z3 rfl) (And.intro (cell_heap (j := 0) E3'.c3 rfl) (cell_heap (j := 2) z3 rfl))); have HA3 := hide hA3; have HU3 := hide hU3; have HX3 := hide hX3; have HM3 := hide hm3; have HN3 := hide hN3; have HE3 := hide E3'; have HAp3 := hide A3; have HD3 := hide hD3; have HG3 := hide hg3; have HR3 := hide hr3; have HZ3 := hide z3; have HF3 := hide hf3; clear hA3 hU3 hX3 hm3 hN3 E3' A3 hD3 hg3 hr3 z3 hf3 hd3)
        | ((with_reducible refine (made_call HM.out HA3.out HU3.out HLE.out HX3.out HT2d.out hdb HG2.out HG3.out HDD.out.2.1 HDD.out.2.2 r4 r5 r6 r7 (HB.out _ HM2.out HM3.out)).mono ?_); intro e w4 hh; unfold NodeOut at hh; obtain ⟨k4, s4, r, he, hA4, hT4, hU4, hm4, hg4⟩ := hh; subst he; obtain ⟨E4', A4⟩ := HE3.out.t HAp3.out hT4; have z4 := hT4.heap HZ3.out HF3.out; have hf4 := hT4.fpn (lt_heap HZ3.out) HF3.out; have hk4 := And.intro (cell_heap (j := 0) E4'.c4 rfl) (And.intro (cell_heap (j := 0) z4 rfl) (And.intro (cell_heap (j := 0) E4'.c3 rfl) (cell_heap (j := 2) z4 rfl))); have HA4 := hide hA4; have HU4 := hide hU4; have HT4 := hide hT4; have HM4 := hide hm4; have HG4 := hide hg4; have HE4 := hide E4'; have HAp4 := hide A4; clear hA4 hU4 hT4 hm4 hg4 E4' A4 z4 hf4))
    all_goals (
      have k41 := cell_heap (j := 0) HE4.out.c1 rfl
      have hrl : r < s4.nd.length := by
        obtain ⟨t', _, d'⟩ := HG4.out
        exact d'.lt HA4.out.wf
      have hnm4 := HA4.out.nm
      have hN3 := HN3.out
      have hN2 := HN2.out
      have hm3 := HM3.out
      have hm2 := HM2.out
      have hm4 := HM4.out
      have hU := hide ((HU2.out.trans HU3.out).trans HU4.out)
      have hPx := HP.out
      have hQ2 := HQ2.out
      have hE2x := HE2.out
      have hrg : GoodAt S nd0 S' bd T s4.nd f r := by
        intro t' F' d'
        obtain ⟨rfl, rfl⟩ := HDD.out.1.det d'
        exact HG4.out
      have hmM : s4.m ≤ s.m + (m + 1) * 2 ^ (m + 1 + 2) := by
        rw [HQ1.out, HR.out, HP.out]
        rw [HST.out, HP.out] at hm4
        omega
      have hNN : N3 + 1 + 1 ≤ N + 2 ^ (m + 1) := by rw [hQ2, hE2x]; omega
      have hNb : N3 < maxLen := by unfold maxLen; omega
      have hm10 : s4.m ≤ 1000000000 := by rw [HST.out, HP.out] at hm4; omega
      have hwf : (Lit.int .i32 r).wf = true := wf3 (by omega) (by omega)
      have hk3f := key3 (f : Int) (by omega) (by omega)
      have hD4 := hide ((HD3.out.up HU4.out).put h2 hrl hrg)
      have HRG := hide hrg
      have HMM := hide hmM
      have HNN := hide hNN
      clear hmM hNN hrg hm4 hm2 hm3 hN3 hN2 hPx hQ2 hE2x hk2 hk3 hk4
      go_wp2_with (at_mapUpdate; go_must (refine wpList_put rfl (.tmp 40) (.tmp 41) (.tmp 42) rfl HE4.out.done keyed3 Tryz.underlying120 Tryz.underlying21 hNb enc3_inj rfl (f : Int) _ rfl hk3f r rfl hwf ?_))
      intro w5 hmi hmt
      have HX := hide (show WalkOut S nd0 S' bd T k s w db N (m + 1) f (.returned (.int .i32 (r : Nat))) w5 from
        ⟨k4, s4, r, N3 + 1, _, rfl, hA4x HA4.out HE4.out HAp4.out hmt, hU.out, HMM.out, HNN.out, ((HXB.out.trans HX2.out).trans HX3.out).trans ((HT4.out.x db).trans (TurnX.map hmt)), hmi, hD4.out, hrl, HRG.out⟩)
      clear hmi hmt
      go_wp2_with fail
      go_ret
      exact HX.out)
end Go.Proofs.YtgfjdkkfgclhjaaGreat.Bd
/- each, whole. -/
namespace Go.Proofs.YtgfjdkkfgclhjaaGreat.Bd
open Go.RowKit Go.Proofs.YtgfjdkkfgclhjaaGreat Go.Proofs.YtgfjdkkfgclhjaaGreat.Lx Go.Maps

section
variable {P : Program} {w : World} {k e t : TypeId} {q : IntKind} {b n N : Nat} {α : Type} {en : α → Value} {ops : Array Oper} {rest : List Oper} {o : Oper} {a : Act} {Q : Exit → Act → World → Prop}
theorem wpList_insI [DecidableEq α] (hg : o.guard = none) (m x v : Operand) (hop : o.op = Op.insert t m x v) {f : α → Option Int} (h : MInt P w k e q b n en f) (K : Keyed P k) (ht : P.underlying t = some (.map k e)) (he : P.underlying e = some (.int q)) (hn : n < maxLen) (inj : ∀ x y, en x = en y → x = y)
    (hm : a.eval m = .map (some b)) (key : α) (kl : Lit) (hx : a.eval x = en key) (hkey : keyOf P k (en key) = some kl) (c : Int) (hv : a.eval v = .int q c) (hc : (Lit.int q c).wf = true)
    (hK : ∀ w', MInt P w' k e q b (n + 1) en (fun x => if x = key then some c else f x) → w.mapTurned w' b → wpList P ops Q rest (a.put o.dst undef) w') : wpList P ops Q (o :: rest) a w := by
  refine wpList_plain hg fun K' hK' => ?_
  obtain ⟨w', hrun, r1, r2⟩ := h.store K ht he hn inj hkey hc
  unfold Oper.wp
  simp [execOp, hop, hm, hx, hv, hrun, Result.andThen]
  exact hK' _ _ (hK w' r1 r2)
end
def fd0 : Int → Option Int := fun x => if x = 1 then some 1 else if x = 0 then some 0 else none
theorem es_start {w w1 w2 : World} {p : Nat} {M : FuncId} {caps : Array Value} (ht1 : World.mapTurned (((w.alloc (.cells #[.pointer (some ⟨p, 0, none⟩)] 24)).alloc (.cells #[.func (.func M) #[] caps] 116)).alloc (.map #[] 0)) w1 (w.heap.size + 2)) (ht2 : w1.mapTurned w2 (w.heap.size + 2))
    (hm : MInt Tryz.prog w2 21 21 .i32 (w.heap.size + 2) 2 enc3 fd0) :
    Es ((w2.alloc (.cells #[.map (some (w.heap.size + 2))] 120)).alloc (.cells #[(.func (.func 95) #[] #[.pointer (some ⟨w2.heap.size, 0, none⟩), .pointer (some ⟨w.heap.size, 0, none⟩), .pointer (some ⟨w2.heap.size + 1, 0, none⟩), .pointer (some ⟨w.heap.size + 1, 0, none⟩)])] 137))
      p w2.heap.size w.heap.size (w2.heap.size + 1) (w.heap.size + 1) (w.heap.size + 2) 2 M caps fd0 ∧ w.heap.size + 3 ≤ w2.heap.size ∧
    Below w.heap.size w ((w2.alloc (.cells #[.map (some (w.heap.size + 2))] 120)).alloc (.cells #[(.func (.func 95) #[] #[.pointer (some ⟨w2.heap.size, 0, none⟩), .pointer (some ⟨w.heap.size, 0, none⟩), .pointer (some ⟨w2.heap.size + 1, 0, none⟩), .pointer (some ⟨w.heap.size + 1, 0, none⟩)])] 137)) := by
  have hg := (ht1.trans ht2).grown
  have hs := hg.size
  simp only [World.size_alloc] at hs
  have c2 : w2.heap[w.heap.size]? = some (.cells #[.pointer (some ⟨p, 0, none⟩)] 24 (0, 0)) := heap_grown (heap_old (heap_old (heap_new _ _))) hg (opt_ne (by omega))
  have c4 : w2.heap[w.heap.size + 1]? = some (.cells #[.func (.func M) #[] caps] 116 (0, 0)) := by
    have := heap_new (w.alloc (.cells #[.pointer (some ⟨p, 0, none⟩)] 24)) (.cells #[.func (.func M) #[] caps] 116)
    rw [show (w.alloc (.cells #[.pointer (some ⟨p, 0, none⟩)] 24)).heap.size = w.heap.size + 1 by simp] at this
    exact heap_grown (heap_old this) hg (opt_ne (by omega))
  have hb : Below w.heap.size w w2 := ((((Below.refl _ w).alloc (Nat.le_refl _) _).alloc (by simp) _).alloc (by simp; omega) _).grown hg (by simp; omega) (fun b e => by injection e with e; omega)
  refine ⟨⟨heap_old (heap_new _ _), heap_old (heap_old c2), ?_, heap_old (heap_old c4), ?_⟩, by omega, (hb.alloc (by omega) _).alloc (by simp; omega) _⟩
  · have := heap_new (w2.alloc (.cells #[.map (some (w.heap.size + 2))] 120)) (.cells #[(.func (.func 95) #[] #[.pointer (some ⟨w2.heap.size, 0, none⟩), .pointer (some ⟨w.heap.size, 0, none⟩), .pointer (some ⟨w2.heap.size + 1, 0, none⟩), .pointer (some ⟨w.heap.size + 1, 0, none⟩)])] 137)
    rw [show (w2.alloc (.cells #[.map (some (w.heap.size + 2))] 120)).heap.size = w2.heap.size + 1 by simp] at this
    exact this
  · exact (hm.kept (World.grownBy_alloc _ _ none) (by simp)).kept (World.grownBy_alloc _ _ none) (by simp)
theorem done_start {S : Nat → Bool} {nd0 : List Nd} {S' : Nat → Nat → Bool} {bd : Nat → Nat → Prop} {T : (Env → Bool) → Env → Bool} (h2 : 2 ≤ nd0.length) (h0 : bd 256 256) (t0 : T (fun _ => false) = fun _ => false) (t1 : T (fun _ => true) = fun _ => true) : DoneOK S nd0 S' bd T nd0 fd0 := by
  refine ⟨rfl, rfl, fun x c hc => ?_⟩
  unfold fd0 at hc
  split at hc
  · rename_i e
    cases hc
    refine ⟨1, 1, e, rfl, by omega, fun t F d => ?_⟩
    obtain ⟨rfl, rfl⟩ := d.det .one
    exact ⟨256, h0, by rw [t1]; exact .one⟩
  · split at hc
    · rename_i e
      cases hc
      refine ⟨0, 0, e, rfl, by omega, fun t F d => ?_⟩
      obtain ⟨rfl, rfl⟩ := d.det .zero
      exact ⟨256, h0, by rw [t0]; exact .zero⟩
    · cases hc
theorem walk_all (S : Nat → Bool) (nd0 : List Nd) (S' : Nat → Nat → Bool) (bd : Nat → Nat → Prop) (T : (Env → Bool) → Env → Bool) (k0 : Blk) (w0 : World) (M : FuncId) (caps : Array Value) (b1 b2 b3 b4 db : Nat) (HM : MadeOK S nd0 S' bd T k0 w0 M caps) (hW0 : WF nd0) (hcall : ∀ (xs : Array Value) (w : World), (callFunc M xs).run Tryz.prog w = .ok (.enter M xs) w) : ∀ n, WalkAt S nd0 S' bd T k0 w0 M caps b1 b2 b3 b4 db n := by
  intro n
  induction n with
  | zero => intro f t F k s w N fd h; omega
  | succ n ih => exact walk_step S nd0 S' bd T k0 w0 M caps b1 b2 b3 b4 db n (hide HM) hW0 hcall ih

set_option maxHeartbeats 4000000 in
set_option maxRecDepth 100000 in
/-- a function made anew -/
theorem each_any (S : Nat → Bool) (S' : Nat → Nat → Bool) (bd : Nat → Nat → Prop) (T : (Env → Bool) → Env → Bool) (k : Blk) (s : St) (M : FuncId) (caps : Array Value) (f t : Nat) (F : Env → Bool) (w : World) (hA : Ar w k s) (d : Den S s.nd f t F) (HM : MadeOK S s.nd S' bd T k w M caps) (hcall : ∀ (xs : Array Value) (w : World), (callFunc M xs).run Tryz.prog w = .ok (.enter M xs) w)
    (h0 : bd 256 256) (t0 : T (fun _ => false) = fun _ => false) (t1 : T (fun _ => true) = fun _ => true) (hm : s.m + nS S t * 2 ^ (nS S t + 2) + 2 ≤ 1000000000) :
    Calls Tryz.prog 74 #[.pointer (some ⟨k.p, 0, none⟩), .int .i32 f, .func (.func M) #[] caps] w (NodeOut k s w (nS S t * 2 ^ (nS S t + 2) + 2) (fun nd' r => ∃ t', bd t t' ∧ Den (S' t) nd' r t' (T F))) := by
  have hW := hA.wf
  have HD0 := hide (done_start (S := S) (S' := S') hW.two h0 t0 t1)
  have HC := hide (fun b1 b2 b3 b4 db => walk_all S s.nd S' bd T k w M caps b1 b2 b3 b4 db HM hW hcall (f + 1))
  have HF : Hid (∀ i, w.heap.size ≤ i → ¬ fp k i) := by
    obtain ⟨_, _, H, _⟩ := hA
    exact fun i hi hf => by have := H.lt i hf; omega
  have HA := hide hA
  have HDn := hide d
  have hp2 : 2 ^ nS S t ≤ 1000000000 := by
    rcases Nat.eq_zero_or_pos (nS S t) with e | e
    · rw [e]; decide
    · have h1 : 2 ^ nS S t ≤ 2 ^ (nS S t + 2) := Nat.pow_le_pow_right (by omega) (by omega)
      have h2 := Nat.le_mul_of_pos_left (2 ^ (nS S t + 2)) e
      omega
  have HMS := hide (MInt.made (P := Tryz.prog) ((w.alloc (.cells #[.pointer (some ⟨k.p, 0, none⟩)] 24)).alloc (.cells #[.func (.func M) #[] caps] 116)) 21 21 .i32 enc3)
  have hsz : ((w.alloc (.cells #[.pointer (some ⟨k.p, 0, none⟩)] 24)).alloc (.cells #[.func (.func M) #[] caps] 116)).heap.size = w.heap.size + 2 := by simp
  rw [hsz] at HMS
  have hmm := @run_makeMap Tryz.prog
  have hk0 := key3 0 (by omega) (by omega)
  have hk1 := key3 1 (by omega) (by omega)
  have hw0 : (Lit.int .i32 0).wf = true := wf3 (by omega) (by omega)
  have hw1 : (Lit.int .i32 1).wf = true := wf3 (by omega) (by omega)
  generalize hn : nS S t = n at *
  have HN := hide hn
  clear hA d HM hcall t0 t1 hn
  go_enter Tryz.func74, Tryz.ntmps74
  go_wp2_with (refine wpList_insI rfl (.tmp 9) _ _ rfl HMS.out keyed3 Tryz.underlying120 Tryz.underlying21 (by unfold maxLen; omega) enc3_inj rfl (0 : Int) _ rfl hk0 0 rfl hw0 ?_)
  intro w1 hm1 ht1
  have HM1 := hide hm1
  have HT1 := hide ht1
  clear hm1 ht1
  go_wp2_with (refine wpList_insI rfl (.tmp 9) _ _ rfl HM1.out keyed3 Tryz.underlying120 Tryz.underlying21 (by unfold maxLen; omega) enc3_inj rfl (1 : Int) _ rfl hk1 1 rfl hw1 ?_)
  intro w2 hm2 ht2
  have HM2 := hide hm2
  have HT2 := hide ht2
  clear hm2 ht2
  have HV := hide (es_start HT1.out HT2.out HM2.out)
  go_wp2_with fail
  have hB := HV.out.2.2
  have hs2 := HV.out.2.1
  have HG := hide (HC.out _ _ _ _ _ f t F k s _ 2 fd0 (by omega) HDn.out (HA.out.below hB) ⟨[], by simp⟩ (Turn.below hB) HV.out.1 HD0.out ⟨HF.out _ (by omega), HF.out _ (by omega), HF.out _ (by omega), HF.out _ (by omega), HF.out _ (by omega), by omega⟩ (by rw [HN.out]; omega) (by rw [HN.out]; omega))
  refine HG.out.mono ?_
  intro e w3 hh
  unfold WalkOut at hh
  obtain ⟨k', s', r, N', fd', rfl, hA', hU', hm', hN', hX', _, _, hr', hg'⟩ := hh
  have HX := hide (show NodeOut k s w (n * 2 ^ (n + 2) + 2) (fun nd' r => ∃ t', bd t t' ∧ Den (S' t) nd' r t' (T F)) (.returned (.int .i32 (r : Nat))) w3 from
    ⟨k', s', r, rfl, hA', hX'.turn (Turn.below hB) (by omega), hU', by rw [HN.out] at hm'; omega, hg' t F HDn.out⟩)
  clear hA' hU' hm' hN' hX' hr' hg' HG HV HT1 HT2 HM1 HM2 HMS
  go_wp2_with fail
  go_ret
  exact HX.out
end Go.Proofs.YtgfjdkkfgclhjaaGreat.Bd
/- slices.IndexFunc, ContainsFunc, Index, Contains at []int; known. -/
namespace Go.Proofs.YtgfjdkkfgclhjaaGreat.Bd
open Go.RowKit Go.Proofs.YtgfjdkkfgclhjaaGreat Go.Proofs.YtgfjdkkfgclhjaaGreat.Lx Go.Maps

/-- the place of the first one, or -1 -/
def idxOf (p : Int → Bool) : List Int → Int
  | [] => -1
  | x :: xs => if p x then 0 else if idxOf p xs < 0 then -1 else idxOf p xs + 1
theorem idxOf_ge (p : Int → Bool) (l : List Int) : -1 ≤ idxOf p l ∧ idxOf p l < l.length := by
  induction l with
  | nil => simp [idxOf]
  | cons x xs ih =>
    simp only [idxOf, List.length_cons]
    split
    · omega
    · split <;> omega
theorem idxOf_any (p : Int → Bool) (l : List Int) : decide (0 ≤ idxOf p l) = l.any p := by
  induction l with
  | nil => rfl
  | cons x xs ih =>
    have := idxOf_ge p xs
    rw [Bool.eq_iff_iff, decide_eq_true_iff] at ih ⊢
    rw [List.any_cons, Bool.or_eq_true, ← ih]
    rw [show idxOf p (x :: xs) = if p x then 0 else if idxOf p xs < 0 then -1 else idxOf p xs + 1 from rfl]
    by_cases h : p x = true
    · rw [if_pos h]; simp [h]
    · rw [if_neg h]
      split
      · constructor
        · intro h1; omega
        · rintro (h1 | h1)
          · exact absurd h1 h
          · omega
      · constructor
        · intro h1; right; omega
        · intro h1; omega
theorem idxOf_none {p : Int → Bool} {l : List Int} (h : ∀ x ∈ l, p x = false) : idxOf p l = -1 := by
  induction l with
  | nil => rfl
  | cons x xs ih =>
    simp only [idxOf, h x (by simp), Bool.false_eq_true, if_false, ih (fun y hy => h y (by simp [hy]))]
    simp
theorem idxOf_at {p : Int → Bool} : ∀ {l : List Int} {i : Nat} {x : Int}, l[i]? = some x → p x = true → (∀ y ∈ l.take i, p y = false) → idxOf p l = i := by
  intro l
  induction l with
  | nil => intro i x h; simp at h
  | cons z zs ih =>
    intro i x h hp hall
    cases i with
    | zero =>
      have : z = x := by simpa using h
      subst this
      simp [idxOf, hp]
    | succ i =>
      have hz : p z = false := hall z (by simp)
      have := ih (i := i) (x := x) (by simpa using h) hp (fun y hy => hall y (by simp [hy]))
      simp only [idxOf, hz, Bool.false_eq_true, if_false, this]
      rw [if_neg (by omega)]
      omega
theorem src_at {w : World} {A : Option Addr} {m c : Nat} {l : List Int} (h : Src w A m c 1 (l.map encI)) {i : Nat} {x : Int} (hx : l[i]? = some x) : ∃ ad, A = some ad ∧ w.cell? (ad.add i) = some (.int .i64 x) := by
  obtain ⟨h1, ⟨_, h2, _⟩ | ⟨ad, h2, h3⟩⟩ := h
  · have := lt_of_some hx
    simp only [List.length_map] at h1
    omega
  · exact ⟨ad, h2, h3 i _ (by rw [List.getElem?_map, hx]; rfl)⟩
set_option maxHeartbeats 1000000 in
set_option maxRecDepth 100000 in
theorem indexFunc_any (A : Option Addr) (c : Nat) (l : List Int) (M : FuncId) (caps : Array Value) (p : Int → Bool) (w : World) (hS : Src w A l.length c 1 (l.map encI)) (hn : l.length ≤ maxLen) (hcall : ∀ (xs : Array Value) (w : World), (callFunc M xs).run Tryz.prog w = .ok (.enter M xs) w)
    (hM : ∀ x ∈ l, Calls Tryz.prog M (#[.int .i64 x] ++ caps) w fun e w' => e = .returned (.bool (p x)) ∧ w = w') :
    Calls Tryz.prog 92 #[.slice A l.length c, .func (.func M) #[] caps] w fun e w' => e = .returned (.int .i64 (idxOf p l)) ∧ w = w' := by
  have HS := hide hS
  have HM := hide hM
  unfold maxLen at hn
  clear hS hM
  go_enter Tryz.func92, Tryz.ntmps92
  go_wp2_with fail
  go_loop [5, 8] (fun _ j => ∃ i : Nat, j = .int .i64 i ∧ i ≤ l.length ∧ ∀ x ∈ l.take i, p x = false) (fun _ j => l.length - (intOf j).toNat)
  case atStart => exact ⟨0, rfl, Nat.zero_le _, by simp⟩
  case round =>
    obtain ⟨i, rfl, hi, hall⟩ := hrel
    rcases Nat.lt_or_ge i l.length with hlt | hge
    · obtain ⟨x, hx⟩ : ∃ x, l[i]? = some x := ⟨_, List.getElem?_eq_getElem hlt⟩
      have d1 : decide (i < l.length) = true := by simpa using hlt
      have d2 : ((i : Int) < l.length) := by omega
      obtain ⟨ad, rfl, hc⟩ := src_at HS.out hx
      have HX := hide (HM.out x (List.mem_of_getElem? hx))
      cases hp : p x with
      | false =>
        rw [hp] at HX
        have HV : Hid (∀ y ∈ l.take (i + 1), p y = false) := by
          intro y hy
          rw [List.take_add_one, hx] at hy
          rcases List.mem_append.1 hy with h | h
          · exact hall y h
          · have : y = x := by simpa using h
            rw [this]; exact hp
        clear hall
        go_wp2_with ((with_reducible refine HX.out.mono ?_); rintro e w' ⟨rfl, rfl⟩)
        go_round
        case rel => exact ⟨i + 1, by go_num, by omega, HV.out⟩
        case measure => simp [intOf]; omega
      | true =>
        rw [hp] at HX
        have HV := hide (idxOf_at hx hp hall)
        clear hall
        go_wp2_with ((with_reducible refine HX.out.mono ?_); rintro e w' ⟨rfl, rfl⟩)
        go_ret
        exact ⟨by rw [HV.out]; rfl, rfl⟩
    · have e : i = l.length := by omega
      have d1 : decide (i < l.length) = false := by simp; omega
      subst e
      have HV := hide (idxOf_none (p := p) (l := l) (by simpa using hall))
      clear hall
      go_wp2_with fail
      go_ret
      exact ⟨by rw [HV.out]; rfl, rfl⟩
set_option maxRecDepth 100000 in
theorem containsFunc_any (A : Option Addr) (c : Nat) (l : List Int) (M : FuncId) (caps : Array Value) (p : Int → Bool) (w : World) (hS : Src w A l.length c 1 (l.map encI)) (hn : l.length ≤ maxLen) (hcall : ∀ (xs : Array Value) (w : World), (callFunc M xs).run Tryz.prog w = .ok (.enter M xs) w)
    (hM : ∀ x ∈ l, Calls Tryz.prog M (#[.int .i64 x] ++ caps) w fun e w' => e = .returned (.bool (p x)) ∧ w = w') :
    Calls Tryz.prog 68 #[.slice A l.length c, .func (.func M) #[] caps] w fun e w' => e = .returned (.bool (l.any p)) ∧ w = w' := by
  have HI := hide (indexFunc_any A c l M caps p w hS hn hcall hM)
  have HV := hide (idxOf_any p l)
  clear hS hM hcall
  generalize idxOf p l = v at *
  go_enter Tryz.func68, Tryz.ntmps68
  go_wp2_with ((with_reducible refine HI.out.mono ?_); rintro e w' ⟨rfl, rfl⟩)
  go_ret
  exact ⟨by rw [← HV.out]; rfl, rfl⟩
set_option maxHeartbeats 1000000 in
set_option maxRecDepth 100000 in
theorem index_any (A : Option Addr) (c : Nat) (l : List Int) (v : Int) (w : World) (hS : Src w A l.length c 1 (l.map encI)) (hn : l.length ≤ maxLen) :
    Calls Tryz.prog 44 #[.slice A l.length c, .int .i64 v] w fun e w' => e = .returned (.int .i64 (idxOf (fun x => v == x) l)) ∧ w = w' := by
  have HS := hide hS
  unfold maxLen at hn
  clear hS
  go_enter Tryz.func44, Tryz.ntmps44
  go_wp2_with fail
  go_loop [5, 8] (fun _ j => ∃ i : Nat, j = .int .i64 i ∧ i ≤ l.length ∧ ∀ x ∈ l.take i, (v == x) = false) (fun _ j => l.length - (intOf j).toNat)
  case atStart => exact ⟨0, rfl, Nat.zero_le _, by simp⟩
  case round =>
    obtain ⟨i, rfl, hi, hall⟩ := hrel
    rcases Nat.lt_or_ge i l.length with hlt | hge
    · obtain ⟨x, hx⟩ : ∃ x, l[i]? = some x := ⟨_, List.getElem?_eq_getElem hlt⟩
      have d1 : decide (i < l.length) = true := by simpa using hlt
      have d2 : ((i : Int) < l.length) := by omega
      obtain ⟨ad, rfl, hc⟩ := src_at HS.out hx
      cases hp : (v == x) with
      | false =>
        have HV : Hid (∀ y ∈ l.take (i + 1), (v == y) = false) := by
          intro y hy
          rw [List.take_add_one, hx] at hy
          rcases List.mem_append.1 hy with h | h
          · exact hall y h
          · have : y = x := by simpa using h
            rw [this]; exact hp
        clear hall
        go_wp2_with fail
        go_round
        case rel => exact ⟨i + 1, by go_num, by omega, HV.out⟩
        case measure => simp [intOf]; omega
      | true =>
        have HV := hide (idxOf_at (p := fun x => v == x) hx hp hall)
        clear hall
        go_wp2_with fail
        go_ret
        exact ⟨by rw [HV.out]; rfl, rfl⟩
    · have e : i = l.length := by omega
      have d1 : decide (i < l.length) = false := by simp; omega
      subst e
      have HV := hide (idxOf_none (p := fun x => v == x) (l := l) (by simpa using hall))
      clear hall
      go_wp2_with fail
      go_ret
      exact ⟨by rw [HV.out]; rfl, rfl⟩
set_option maxRecDepth 100000 in
theorem contains_any (A : Option Addr) (c : Nat) (l : List Int) (v : Int) (w : World) (hS : Src w A l.length c 1 (l.map encI)) (hn : l.length ≤ maxLen) :
    Calls Tryz.prog 70 #[.slice A l.length c, .int .i64 v] w fun e w' => e = .returned (.bool (l.any fun x => v == x)) ∧ w = w' := by
  have HI := hide (index_any A c l v w hS hn)
  have HV := hide (idxOf_any (fun x => v == x) l)
  clear hS
  generalize idxOf (fun x => v == x) l = z at *
  go_enter Tryz.func70, Tryz.ntmps70
  go_wp2_with ((with_reducible refine HI.out.mono ?_); rintro e w' ⟨rfl, rfl⟩)
  go_ret
  exact ⟨by rw [← HV.out]; rfl, rfl⟩

theorem call_enter {P : Program} {f : FuncId} {fn : Func} (hf : P.funcs[f]? = some fn) (hname : (fn.name == "runtime.NumGoroutine") = false) (hb : fn.body.isSome = true) (xs : Array Value) (w : World) : (callFunc f xs).run P w = .ok (.enter f xs) w := by
  obtain ⟨c, hc⟩ := Option.isSome_iff_exists.1 hb
  have h1 : fn.name ≠ "runtime.NumGoroutine" := by simpa using hname
  simp [callFunc, hf, h1, hc]
/-! ### known -/
def outB (vs : Nat) (x : Int) : Bool := decide (x < 0) || decide ((vs : Int) ≤ x)
def knownB (vs : Nat) (l : List Int) : Bool := !l.any (outB vs)
theorem call_known (xs : Array Value) (w : World) : (callFunc 91 xs).run Tryz.prog w = .ok (.enter 91 xs) w := by
  exact call_enter Tryz.func91 (by kernel_rfl) (by kernel_rfl) xs w
set_option maxRecDepth 100000 in
theorem known1_any (k : Blk) (s : St) (x : Int) (b : Nat) (w : World) (hb : w.cell? ⟨b, 0, none⟩ = some (.pointer (some ⟨k.p, 0, none⟩))) (h0 : w.cell? ⟨k.p, 0, none⟩ = some (.int .i64 s.vs)) :
    Calls Tryz.prog 91 #[.int .i64 x, .pointer (some ⟨b, 0, none⟩)] w fun e w' => e = .returned (.bool (outB s.vs x)) ∧ w = w' := by
  cases d1 : decide (x < 0)
  · cases d2 : decide ((s.vs : Int) ≤ x)
    all_goals (
      have HV := hide (show outB s.vs x = (false || _) from by unfold outB; rw [d1, d2])
      go_enter Tryz.func91, Tryz.ntmps91
      go_wp2_with fail
      go_ret
      exact ⟨by rw [HV.out]; rfl, rfl⟩)
  · have HV := hide (show outB s.vs x = true from by unfold outB; rw [d1]; rfl)
    go_enter Tryz.func91, Tryz.ntmps91
    go_wp2_with fail
    go_ret
    exact ⟨by rw [HV.out]; rfl, rfl⟩
set_option maxRecDepth 100000 in
theorem known_any (k : Blk) (s : St) (A : Option Addr) (c : Nat) (l : List Int) (w : World) (hA : Ar w k s) (hS : Src w A l.length c 1 (l.map encI)) (hn : l.length ≤ maxLen) :
    Calls Tryz.prog 67 #[.pointer (some ⟨k.p, 0, none⟩), .slice A l.length c] w fun e w' => e = .returned (.bool (knownB s.vs l)) ∧ Below w.heap.size w w' := by
  obtain ⟨fb, ft, H, I⟩ := hA
  have hbl := bel_one w (.cells #[.pointer (some ⟨k.p, 0, none⟩)] 24)
  have c0 := (H.below hbl).c0
  have hb := cell_heap (j := 0) (heap_new w (.cells #[.pointer (some ⟨k.p, 0, none⟩)] 24)) rfl
  have HC := hide (containsFunc_any A c l 91 #[.pointer (some ⟨w.heap.size, 0, none⟩)] (outB s.vs) _ (hS.below hbl) hn call_known (fun x _ => known1_any k s x w.heap.size _ hb c0))
  have HV := hide (show knownB s.vs l = !(l.any (outB s.vs)) from rfl)
  have HB := hide hbl
  generalize knownB s.vs l = v at *
  generalize l.any (outB s.vs) = z at *
  clear H I hS hbl c0 hb
  go_enter Tryz.func67, Tryz.ntmps67
  go_wp2_with ((with_reducible refine HC.out.mono ?_); rintro e w' ⟨rfl, rfl⟩)
  go_ret
  exact ⟨by rw [HV.out]; rfl, HB.out⟩
end Go.Proofs.YtgfjdkkfgclhjaaGreat.Bd
