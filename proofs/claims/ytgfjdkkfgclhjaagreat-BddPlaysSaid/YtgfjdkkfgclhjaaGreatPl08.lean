/- What the claim leans on, part 8 of 13: EU EV EW EX. -/
import Derived.Test.YtgfjdkkfgclhjaaGreatPl01
import Derived.Test.YtgfjdkkfgclhjaaGreatPl02
import Derived.Test.YtgfjdkkfgclhjaaGreatPl03
import Derived.Test.YtgfjdkkfgclhjaaGreatPl04
import Derived.Test.YtgfjdkkfgclhjaaGreatPl05
import Derived.Test.YtgfjdkkfgclhjaaGreatPl06
import Derived.Test.YtgfjdkkfgclhjaaGreatPl07
/- What each call of the arena answers within a play: an answer of the function that the table tells, or an error. -/
namespace Go.Proofs.YtgfjdkkfgclhjaaGreat.Bd
open Go.RowKit Go.Proofs.YtgfjdkkfgclhjaaGreat Go.Proofs.YtgfjdkkfgclhjaaGreat.Lx Go.Maps

theorem known_iff {n : Nat} {l : List Int} : knownB n l = true ↔ ∀ x ∈ l, 0 ≤ x ∧ x < (n : Int) := by
  unfold knownB
  rw [Bool.not_eq_true', List.any_eq_false]
  constructor
  · intro h x hx
    have := h x hx
    unfold outB at this
    simp only [Bool.or_eq_true, decide_eq_true_eq, not_or] at this
    omega
  · intro h x hx
    have := h x hx
    unfold outB
    simp only [Bool.or_eq_true, decide_eq_true_eq, not_or]
    omega
/-- a row of variables as natural numbers -/
theorem known_nat {n : Nat} {l : List Int} (h : knownB n l = true) : ∃ m : List Nat, l = encL m ∧ ∀ x ∈ m, x < n := by
  have h := known_iff.1 h
  refine ⟨l.map Int.toNat, ?_, ?_⟩
  · unfold encL
    rw [List.map_map]
    have : l.map (fun x => x) = l.map ((fun x : Nat => (x : Int)) ∘ Int.toNat) := List.map_congr_left (fun x hx => by have := h x hx; simp; omega)
    simpa using this
  · intro x hx
    obtain ⟨y, hy, rfl⟩ := List.mem_map.1 hx
    have := h y hy
    omega
theorem nodeP_neg {ns : List Nat} {x : Int} (h : x < 0) : nodeP ns x = -1 := if_pos h
theorem nodup_enc {l : List Nat} : (encL l).Nodup ↔ l.Nodup := by
  unfold encL
  constructor
  · intro h
    exact (List.pairwise_map.1 h).imp (fun hab e => hab (by rw [e]))
  · intro h
    exact List.pairwise_map.2 (h.imp (fun hab e => hab (by omega)))
section
variable {w w' : World} {k : Blk} {s : St} {n ms i : Nat} {Fs : List (Env → Bool)} {ns : List Nat} {ts Hs : List Tb}
theorem api_low {R : Nat} {ok : List Nd → Nat → Prop} {G : Env → Bool} {e : Ending} (h : ApiOut k s w R ok e w') (hR : R ≤ 1538) (ho : ∀ nd' r, ok nd' r → OkSem (lowV n) G nd' r) : ApiOut k s w 1538 (OkSem (lowV n) G) e w' := h.mono hR (fun nd' r _ o => ho nd' r o)
theorem Var_p (h : Pl s n ms i Fs ns ts Hs) (L : Live w k s) (hi : i ≤ 60) (v : Nat) (hv : v < n) :
    Calls Tryz.prog 54 #[.pointer (some ⟨k.p, 0, none⟩), .int .i64 v] w (ApiOut k s w 1538 (OkSem (lowV n) fun ρ => ρ v)) := by
  have hm := h.m
  refine (Var_sem k s v w L (by rw [h.vs]; exact hv) (by omega)).mono (fun e w' ho => api_low ho (by omega) ?_)
  rintro nd' r ⟨t, d⟩
  exact ⟨t, d.mono (fun x hx => by unfold oneS at hx; have := of_decide_eq_true hx; exact decide_eq_true (by omega))⟩
theorem Not_p (h : Pl s n ms i Fs ns ts Hs) (L : Live w k s) (hi : i ≤ 60) {f : Nat} {F : Env → Bool} (nf : Nod s f (lowV n) F) :
    Calls Tryz.prog 55 #[.pointer (some ⟨k.p, 0, none⟩), .int .i64 f] w (ApiOut k s w 1538 (OkSem (lowV n) fun ρ => if F ρ then false else true)) := by
  obtain ⟨g, t, d⟩ := nf
  have hm := h.m
  have hu := pow_up n
  have hp := pow_low h.n6
  have e : (fun ρ => if F ρ then false else true) = fun ρ => !F ρ := by funext ρ; cases F ρ <;> rfl
  rw [e]
  exact (Not_sem (lowV n) k s f t n F w L.ar L.ad ⟨L.g0, L.g1⟩ g d (nS_low h.n6) (by omega)).mono (fun e w' ho => api_low ho (by omega) (fun _ _ o => o))
theorem And_p (h : Pl s n ms i Fs ns ts Hs) (L : Live w k s) (hi : i ≤ 60) {f g : Nat} {F G : Env → Bool} (nf : Nod s f (lowV n) F) (ng : Nod s g (lowV n) G) :
    Calls Tryz.prog 56 #[.pointer (some ⟨k.p, 0, none⟩), .int .i64 f, .int .i64 g] w (ApiOut k s w 1538 (OkSem (lowV n) fun ρ => if F ρ then G ρ else false)) := by
  obtain ⟨g1, t1, d1⟩ := nf
  obtain ⟨g2, t2, d2⟩ := ng
  have hm := h.m
  have hu := pow_up n
  have hp := pow_low h.n6
  have e : (fun ρ => if F ρ then G ρ else false) = fun ρ => F ρ && G ρ := by funext ρ; cases F ρ <;> rfl
  rw [e]
  exact (And_sem (lowV n) k s f g t1 t2 n F G w L.ar L.ad ⟨L.g0, L.g1⟩ g1 g2 d1 d2 (nS_low h.n6) (by omega)).mono (fun e w' ho => api_low ho (by omega) (fun _ _ o => o))
theorem Or_p (h : Pl s n ms i Fs ns ts Hs) (L : Live w k s) (hi : i ≤ 60) {f g : Nat} {F G : Env → Bool} (nf : Nod s f (lowV n) F) (ng : Nod s g (lowV n) G) :
    Calls Tryz.prog 57 #[.pointer (some ⟨k.p, 0, none⟩), .int .i64 f, .int .i64 g] w (ApiOut k s w 1538 (OkSem (lowV n) fun ρ => if F ρ then true else G ρ)) := by
  obtain ⟨g1, t1, d1⟩ := nf
  obtain ⟨g2, t2, d2⟩ := ng
  have hm := h.m
  have hu := pow_up n
  have hp := pow_low h.n6
  have e : (fun ρ => if F ρ then true else G ρ) = fun ρ => F ρ || G ρ := by funext ρ; cases F ρ <;> rfl
  rw [e]
  exact (Or_sem (lowV n) k s f g t1 t2 n F G w L.ar L.ad ⟨L.g0, L.g1⟩ g1 g2 d1 d2 (nS_low h.n6) (by omega)).mono (fun e w' ho => api_low ho (by omega) (fun _ _ o => o))
theorem Xor_p (h : Pl s n ms i Fs ns ts Hs) (L : Live w k s) (hi : i ≤ 60) {f g : Nat} {F G : Env → Bool} (nf : Nod s f (lowV n) F) (ng : Nod s g (lowV n) G) :
    Calls Tryz.prog 58 #[.pointer (some ⟨k.p, 0, none⟩), .int .i64 f, .int .i64 g] w (ApiOut k s w 1538 (OkSem (lowV n) fun ρ => if F ρ then (if G ρ then false else true) else G ρ)) := by
  obtain ⟨g1, t1, d1⟩ := nf
  obtain ⟨g2, t2, d2⟩ := ng
  have hm := h.m
  have hp := pow_low h.n6
  have e : (fun ρ => if F ρ then (if G ρ then false else true) else G ρ) = fun ρ => if F ρ then !G ρ else G ρ := by funext ρ; cases F ρ <;> cases G ρ <;> rfl
  rw [e]
  exact (Xor_sem (lowV n) k s f g t1 t2 n F G w L.ar L.ad g1 g2 d1 d2 (nS_low h.n6) (by omega)).mono (fun e w' ho => api_low ho (by omega) (fun _ _ o => o))
theorem Ite_p (h : Pl s n ms i Fs ns ts Hs) (L : Live w k s) (hi : i ≤ 60) {f g x : Nat} {F G H : Env → Bool} (nf : Nod s f (lowV n) F) (ng : Nod s g (lowV n) G) (nx : Nod s x (lowV n) H) :
    Calls Tryz.prog 59 #[.pointer (some ⟨k.p, 0, none⟩), .int .i64 f, .int .i64 g, .int .i64 x] w (ApiOut k s w 1538 (OkSem (lowV n) fun ρ => if F ρ then G ρ else H ρ)) := by
  obtain ⟨g1, t1, d1⟩ := nf
  obtain ⟨g2, t2, d2⟩ := ng
  obtain ⟨g3, t3, d3⟩ := nx
  have hm := h.m
  have hu := pow_up n
  have hp := pow_low h.n6
  exact (Ite_sem (lowV n) k s f g x t1 t2 t3 n F G H w L.ar L.ad g1 g2 g3 d1 d2 d3 (nS_low h.n6) (by omega)).mono (fun e w' ho => api_low ho (by omega) (fun _ _ o => o))
theorem Restrict_p (h : Pl s n ms i Fs ns ts Hs) (L : Live w k s) (hi : i ≤ 60) {f : Nat} {F : Env → Bool} (nf : Nod s f (lowV n) F) (v : Nat) (b : Bool) (hv : v < n) :
    Calls Tryz.prog 60 #[.pointer (some ⟨k.p, 0, none⟩), .int .i64 f, .int .i64 v, .bool b] w (ApiOut k s w 1538 (OkSem (lowV n) fun ρ => F (upd ρ v b))) := by
  obtain ⟨g, t, d⟩ := nf
  have hm := h.m
  have hu := walk_up (t := t) (nS_low h.n6)
  have hp := walkR_low h.n6
  exact (Restrict_any (lowV n) k s f v t b F w L.ar L.ad g d (by rw [h.vs]; exact hv) (by omega)).mono (fun e w' ho => api_low ho (by omega) (fun _ _ o => okSem_of o))
theorem Exists_p (h : Pl s n ms i Fs ns ts Hs) (L : Live w k s) (hi : i ≤ 60) {f : Nat} {F : Env → Bool} (nf : Nod s f (lowV n) F) (A : Option Addr) (c : Nat) (l : List Nat) (hS : Src w A l.length c 1 ((encL l).map encI)) (hln : l.length ≤ maxLen) (hl : ∀ x ∈ l, x < n) :
    Calls Tryz.prog 61 #[.pointer (some ⟨k.p, 0, none⟩), .int .i64 f, .slice A l.length c] w (ApiOut k s w 1538 (OkSem (lowV n) (overT (jn false) (fun y => decide (y ∈ l)) F))) := by
  obtain ⟨g, t, d⟩ := nf
  have hm := h.m
  have hu := walk_up (t := t) (nS_low h.n6)
  have hp := walkR_low h.n6
  rw [jn_false]
  exact (Exists_any (lowV n) k s f t F A c l w L.ar L.ad g d hS hln (fun x hx => by rw [h.vs]; exact hl x hx) (by omega)).mono (fun e w' ho => api_low ho (by omega) (fun _ _ o => okSem_of o))
theorem Forall_p (h : Pl s n ms i Fs ns ts Hs) (L : Live w k s) (hi : i ≤ 60) {f : Nat} {F : Env → Bool} (nf : Nod s f (lowV n) F) (A : Option Addr) (c : Nat) (l : List Nat) (hS : Src w A l.length c 1 ((encL l).map encI)) (hln : l.length ≤ maxLen) (hl : ∀ x ∈ l, x < n) :
    Calls Tryz.prog 62 #[.pointer (some ⟨k.p, 0, none⟩), .int .i64 f, .slice A l.length c] w (ApiOut k s w 1538 (OkSem (lowV n) (overT (jn true) (fun y => decide (y ∈ l)) F))) := by
  obtain ⟨g, t, d⟩ := nf
  have hm := h.m
  have hu := walk_up (t := t) (nS_low h.n6)
  have hp := walkR_low h.n6
  rw [jn_true]
  exact (Forall_any (lowV n) k s f t F A c l w L.ar L.ad g d hS hln (fun x hx => by rw [h.vs]; exact hl x hx) (by omega)).mono (fun e w' ho => api_low ho (by omega) (fun _ _ o => okSem_of o))
theorem small_rows {l : List Nat} (hnd : l.Nodup) (hl : ∀ x ∈ l, x < n) : l.length ≤ n := by
  exact nodup_len hnd hl
theorem Rename_p (h : Pl s n ms i Fs ns ts Hs) (L : Live w k s) (hi : i ≤ 60) {f : Nat} {F : Env → Bool} (nf : Nod s f (lowV n) F) (A1 A2 : Option Addr) (c1 c2 : Nat) (l1 l2 : List Nat) (hS1 : Src w A1 l1.length c1 1 ((encL l1).map encI)) (hS2 : Src w A2 l2.length c2 1 ((encL l2).map encI)) (he : l1.length = l2.length) (hnd : l1.Nodup) (hl1 : ∀ x ∈ l1, x < n) (hl2 : ∀ x ∈ l2, x < n) :
    Calls Tryz.prog 63 #[.pointer (some ⟨k.p, 0, none⟩), .int .i64 f, .slice A1 l1.length c1, .slice A2 l2.length c2] w (ApiOut k s w 1538 (OkSem (lowV n) fun ρ => F (renE (l1.zip l2) ρ ρ))) := by
  obtain ⟨g, t, d⟩ := nf
  have hm := h.m
  have hn := h.n6
  have hu := walk_up (t := t) (nS_low h.n6)
  have hp := walkR_low h.n6
  have hsm := small_rows hnd hl1
  have e : (fun ρ : Env => F (renE (l1.zip l2) ρ ρ)) = renT (rnOf (l1.zip l2)) F := by
    funext ρ
    rw [renE_rn _ _ rfl]
    rfl
  rw [e]
  refine (Rename_any (lowV n) k s f t F A1 A2 c1 c2 l1 l2 w L.ar L.ad g d hS1 hS2 (by omega) he hnd (fun x hx => by rw [h.vs]; exact hl1 x hx) (fun x hx => by rw [h.vs]; exact hl2 x hx) (by omega)).mono (fun e w' ho => api_low ho (by omega) ?_)
  rintro nd' r ⟨t', _, d'⟩
  refine ⟨t', d'.mono (fun y hy => ?_)⟩
  obtain ⟨x, _, _, hx, rfl⟩ := imgS_iff.1 hy
  exact decide_eq_true (rnOf_lt _ _ rfl (fun p hp => hl2 _ (List.of_mem_zip hp).2) x (of_decide_eq_true hx))
/-! ### errors -/
abbrev BadOut (w : World) (e : Ending) (w' : World) : Prop := e = .returned (.tuple #[.int .i64 0, .int .i64 1]) ∧ Below w.heap.size w w'
theorem Pl.node64 (h : Pl s n ms i Fs ns ts Hs) (L : Live w k s) (hi : i ≤ 60) (x : Int) : I64 (nodeP ns x) := by
  by_cases hx : x < 0
  · rw [nodeP_neg hx]
    decide
  · obtain ⟨a, f, F, _, _, e, _, _, t, d⟩ := h.arg (x := x) (by omega)
    rw [e]
    have h1 := d.lt L.ar.wf
    have h2 := L.ar.nm
    have h3 := h.m
    unfold I64
    omega
theorem Pl.gv_neg (h : Pl s n ms i Fs ns ts Hs) {x : Int} {l : List Int} (hx : x < 0) (hm : nodeP ns x ∈ l) : gvn s l = 1 := gvn_no hm (by rw [nodeP_neg hx]; exact h.neg)
theorem Pl.gv_pos (h : Pl s n ms i Fs ns ts Hs) {x : Int} (hx : 0 ≤ x) : gvn s [nodeP ns x] = 0 := by
  obtain ⟨a, f, F, _, _, e, _, g, _⟩ := h.arg hx
  rw [e]
  exact gvn_all (by simp [g])
theorem Rename_err (h : Pl s n ms i Fs ns ts Hs) (L : Live w k s) (hi : i ≤ 60) (x : Int) (A1 A2 : Option Addr) (c1 c2 : Nat) (l1 l2 : List Int) (hS1 : Src w A1 l1.length c1 1 (l1.map encI)) (hS2 : Src w A2 l2.length c2 1 (l2.map encI)) (hn1 : l1.length ≤ maxLen) (hn2 : l2.length ≤ maxLen) (hbad : x < 0 ∨ l1.length ≠ l2.length ∨ knownB n l1 = false ∨ knownB n l2 = false ∨ ¬ l1.Nodup) :
    Calls Tryz.prog 63 #[.pointer (some ⟨k.p, 0, none⟩), .int .i64 (nodeP ns x), .slice A1 l1.length c1, .slice A2 l2.length c2] w (BadOut w) := by
  have h64 := h.node64 L hi x
  by_cases hx : x < 0
  · exact Rename_bad k s _ _ _ w L.ar h64 (h.gv_neg hx (by simp))
  · have hg := h.gv_pos (x := x) (by omega)
    by_cases hb : l1.length ≠ l2.length ∨ knownB n l1 = false ∨ knownB n l2 = false
    · exact Rename_shape k s _ A1 A2 c1 c2 l1 l2 w L.ar h64 hg hS1 hS2 hn1 hn2 (by rw [h.vs]; exact hb)
    · simp only [not_or, Bool.not_eq_false, ne_eq, Decidable.not_not] at hb
      obtain ⟨h1, h2, h3⟩ := hb
      obtain ⟨m1, rfl, k1⟩ := known_nat h2
      obtain ⟨m2, rfl, k2⟩ := known_nat h3
      have hnd : ¬ m1.Nodup := by
        rcases hbad with e | e | e | e | e
        · exact absurd e hx
        · exact absurd h1 e
        · rw [h2] at e; cases e
        · rw [h3] at e; cases e
        · exact fun hn => e (nodup_enc.2 hn)
      rw [encL_len] at hS1 hn1 h1 ⊢
      rw [encL_len] at hS2 h1 ⊢
      exact Rename_twice k s _ A1 A2 c1 c2 m1 m2 w L.ar L.ad h64 hg hS1 hS2 hn1 h1 hnd (fun x hx => by rw [h.vs]; exact k1 x hx) (fun x hx => by rw [h.vs]; exact k2 x hx)
end
end Go.Proofs.YtgfjdkkfgclhjaaGreat.Bd
/- call, walked (printed by gen_ev.py): for each kind of act an answer of the arena, or an error. -/
namespace Go.Proofs.YtgfjdkkfgclhjaaGreat.Bd
open Go.RowKit Go.Proofs.YtgfjdkkfgclhjaaGreat Go.Proofs.YtgfjdkkfgclhjaaGreat.Lx Go.Maps

/-- an act's cells -/
abbrev actC (d : Nat) (xf xg xh xi : Int) (xb : Bool) (A1 : Option Addr) (n1 c1 : Nat) (A2 : Option Addr) (n2 c2 : Nat) (A3 : Option Addr) (n3 c3 : Nat) : Array Value := #[.int .u8 d, .int .i64 xf, .int .i64 xg, .int .i64 xh, .int .i64 xi, .bool xb, .slice A1 n1 c1, .slice A2 n2 c2, .slice A3 n3 c3]
/-- an act in memory -/
structure ActM (B : Nat) (w : World) (xf xg xh xi : Int) (A1 : Option Addr) (c1 : Nat) (l1 : List Int) (A2 : Option Addr) (c2 : Nat) (l2 : List Int) (A3 : Option Addr) (c3 : Nat) (l3 : List Bool) : Prop where
  f : I64 xf
  g : I64 xg
  h : I64 xh
  i : I64 xi
  o1 : ∃ base, w.ownsRow base 3 1 (.slice A1 l1.length c1) l1.length (l1.map encI)
  s2 : Src w A2 l2.length c2 1 (l2.map encI)
  s3 : Src w A3 l3.length c3 1 (l3.map Value.bool)
  b2 : ∀ a, A2 = some a → l2 ≠ [] → a.block < B
  b3 : ∀ a, A3 = some a → l3 ≠ [] → a.block < B
  n1 : l1.length ≤ 17592186044416
  n2 : l2.length ≤ 17592186044416
  n3 : l3.length ≤ 140737488355328
section
variable {D : Nat → Array Value → TypeId → Prop} {B : Nat} {w w' : World} {pp : Nat} {k : Blk} {s : St} {n ms q : Nat} {ns : List Nat} {Vn : Value} {ts : List Tb} {vs : List Value} {Vt : Value} {Hs : List Tb} {Vh : Value} {Fs : List (Env → Bool)} {xf xg xh xi : Int} {xb : Bool} {A1 A2 A3 : Option Addr} {c1 c2 c3 : Nat} {l1 l2 : List Int} {l3 : List Bool}
theorem ActM.below (h : ActM B w xf xg xh xi A1 c1 l1 A2 c2 l2 A3 c3 l3) (hb : Below w.heap.size w w') : ActM B w' xf xg xh xi A1 c1 l1 A2 c2 l2 A3 c3 l3 :=
  ⟨h.f, h.g, h.h, h.i, h.o1.imp (fun _ ho => own_below ho hb), h.s2.below hb, h.s3.below hb, h.b2, h.b3, h.n1, h.n2, h.n3⟩
theorem ActM.s1 (h : ActM B w xf xg xh xi A1 c1 l1 A2 c2 l2 A3 c3 l3) : Src w A1 l1.length c1 1 (l1.map encI) := src_of_own h.o1.choose_spec
theorem src_low {A : Option Addr} {m c size : Nat} {xs : List Value} (h : Src w A m c size xs) (hl : ∀ a, A = some a → xs ≠ [] → a.block < B) (hb : Below B w w') : Src w' A m c size xs := by
  obtain ⟨h1, h2 | ⟨ad, h2, h3⟩⟩ := h
  · exact ⟨h1, .inl h2⟩
  · refine ⟨h1, .inr ⟨ad, h2, fun j u hu => ?_⟩⟩
    have hlt : (ad.add j).block < B := by
      have hab : (ad.add j).block = ad.block := by unfold Addr.add; split <;> rfl
      rw [hab]
      exact hl ad h2 (fun e => by rw [e] at hu; simp at hu)
    rw [hb.cell hlt]
    exact h3 j u hu
theorem ActM.turn (h : ActM B w xf xg xh xi A1 c1 l1 A2 c2 l2 A3 c3 l3) (hP : PlM D B w pp k s n ms ns Vn ts vs Vt Hs Vh) {k' : Blk} (T : Turn k k' w w') : ActM B w' xf xg xh xi A1 c1 l1 A2 c2 l2 A3 c3 l3 := by
  have hb := T.low hP.fpl (Nat.le_trans hP.lo (Nat.le_of_lt hP.lt))
  exact ⟨h.f, h.g, h.h, h.i, h.o1.imp (fun _ ho => own_turn hP.ar T ho (by decide) (by decide)), src_low h.s2 (fun a ha hne => h.b2 a ha (fun e => hne (by rw [e]; rfl))) hb, src_low h.s3 (fun a ha hne => h.b3 a ha (fun e => hne (by rw [e]; rfl))) hb, h.b2, h.b3, h.n1, h.n2, h.n3⟩
theorem len_max {m : Nat} (h : m ≤ 17592186044416) : m ≤ maxLen := by unfold maxLen; omega
/-- the play's block and an act's -/
def PX (pp b : Nat) (C X : Array Value) (z : World) : Prop := z.heap[pp]? = some (.cells C 37 (0, 0)) ∧ z.heap[b]? = some (.cells X 39 (0, 0))
theorem api_keep {k : Blk} {s : St} {w1 w2 : World} {R : Nat} {ok : List Nd → Nat → Prop} {e : Ending} (h : ApiOut k s w1 R ok e w2) (hA : Ar w1 k s) {C X : Array Value} {b : Nat} (hp : PX pp b C X w1) : PX pp b C X w2 := by
  obtain ⟨k', s1, r, _, _, _, T, _⟩ := h
  exact ⟨T.heap hp.1 (fp_type hA hp.1 (by decide) (by decide)), T.heap hp.2 (fp_type hA hp.2 (by decide) (by decide))⟩
set_option maxHeartbeats 4000000 in
set_option maxRecDepth 100000 in
theorem call0_good (h : PlM D B w pp k s n ms ns Vn ts vs Vt Hs Vh) (P : Pl s n ms q Fs ns ts Hs) (L : Live w k s) (hq : q ≤ 60) (X : ActM B w xf xg xh xi A1 c1 l1 A2 c2 l2 A3 c3 l3) (v : Nat) (hxi : xi = (v : Int)) (hv : v < n) :
    Calls Tryz.prog 28 #[.pointer (some ⟨pp, 0, none⟩), .agg (actC 0 xf xg xh xi xb A1 l1.length c1 A2 l2.length c2 A3 l3.length c3)] w (ApiOut k s w 1538 (OkSem (lowV n) (fun ρ => ρ v))) := by
  subst hxi
  have hbx := bel_one w (.cells #[.int .u8 0, .int .i64 xf, .int .i64 xg, .int .i64 xh, .int .i64 v, .bool xb, .slice A1 l1.length c1, .slice A2 l2.length c2, .slice A3 l3.length c3] 39)
  have HP1 := hide (h.below hbx)
  have hx0 := heap_new w (.cells #[.int .u8 0, .int .i64 xf, .int .i64 xg, .int .i64 xh, .int .i64 v, .bool xb, .slice A1 l1.length c1, .slice A2 l2.length c2, .slice A3 l3.length c3] 39)
  have HX1 := hide hx0
  have HL1 := hide (L.below hbx)
  have HX2 := hide (X.below hbx)
  have HB1 := hide hbx
  have HN := hide (fun (v : Int) (hv : I64 v) (z : World) (hz : PlM D B z pp k s n ms ns Vn ts vs Vt Hs Vh) => node_any hz P.two (by have := P.sm; omega) v hv)
  have HPL := hide P
  have HI := hide (And.intro X.f (And.intro X.g (And.intro X.h X.i)))
  clear h X L hbx hx0 P
  go_enter Tryz.func28, Tryz.ntmps28
  go_upto_region 1 with fail
  generalize w.alloc (.cells #[.int .u8 0, .int .i64 xf, .int .i64 xg, .int .i64 xh, .int .i64 v, .bool xb, .slice A1 l1.length c1, .slice A2 l2.length c2, .slice A3 l3.length c3] 39) = w1 at *
  have b1 := lat_cell (cell_heap (j := 1) HX1.out rfl)
  have b2 := lat_cell (cell_heap (j := 2) HX1.out rfl)
  have b3 := lat_cell (cell_heap (j := 3) HX1.out rfl)
  have HF := hide (fun z => HN.out xf HI.out.1 (lat w1 z) (HP1.out.below (lat_below w1 z)))
  have HG := hide (fun z => HN.out xg HI.out.2.1 (lat w1 z) (HP1.out.below (lat_below w1 z)))
  have HH := hide (fun z => HN.out xh HI.out.2.2.1 (lat w1 z) (HP1.out.below (lat_below w1 z)))
  clear HN HI
  go_wp2_with fail
  refine wp_region_lat (by kernel_rfl) (by kernel_rfl) ?_
  repeat (first | go_big_quiet_step ((first | (go_at_call 14; with_reducible exact calls_lat (HF.out _)) | (go_at_call 14; with_reducible exact calls_lat (HG.out _)) | (go_at_call 14; with_reducible exact calls_lat (HH.out _)))) | quiet_step ((first | (go_at_call 14; with_reducible exact calls_lat (HF.out _)) | (go_at_call 14; with_reducible exact calls_lat (HG.out _)) | (go_at_call 14; with_reducible exact calls_lat (HH.out _)))))
  refine wpQuiet_nil ?_
  intro _ hlat
  obtain ⟨wq, rfl⟩ := hlat
  have HP2 := hide (HP1.out.below (lat_below w1 wq))
  have hx2 := heapB (lat_below w1 wq) HX1.out
  have HL2 := hide (HL1.out.below (lat_below w1 wq))
  have HX3 := hide (HX2.out.below (lat_below w1 wq))
  have HB2 := hide (below_wide HB1.out (lat_below w1 wq))
  clear HP1 HX1 HL1 HX2 HB1 b1 b2 b3 HF HG HH
  generalize lat w1 wq = w2 at *
  obtain ⟨Cp, hCp⟩ : ∃ Cp : Array Value, Cp = #[Value.pointer (some ⟨k.p, 0, none⟩), .int .i64 n, .int .i64 ms, Vn, Vt, Vh] := ⟨_, rfl⟩
  obtain ⟨Cx, hCx⟩ : ∃ Cx : Array Value, Cx = actC 0 xf xg xh v xb A1 l1.length c1 A2 l2.length c2 A3 l3.length c3 := ⟨_, rfl⟩
  have HZ := hide (show PX pp w.heap.size Cp Cx w2.drew from by subst hCp hCx; exact ⟨(HP2.out.below (Below.refl _ _).drew).h, heapB (Below.refl _ _).drew hx2⟩)
  have HPZ := hide (HP2.out.below (Below.refl _ _).drew)
  have LZ := hide (HL2.out.below (Below.refl _ _).drew)
  have XZ := hide (HX3.out.below (Below.refl _ _).drew)
  have BZ := hide (show Below w.heap.size w w2.drew from HB2.out.drew)
  have hd := cell_heap (j := 0) hx2 rfl
  have gp := fun z => cell_heap (j := 0) (pin_in HZ.out z).1 (show Cp[0]? = some (.pointer (some ⟨k.p, 0, none⟩)) from by rw [hCp]; rfl)
  have g4 := fun z => cell_heap (j := 4) (pin_in HZ.out z).2 (show Cx[4]? = some (.int .i64 v) from by rw [hCx]; rfl)
  clear hx2 HP2 HL2 HX3 HB2 hCp hCx
  go_wp2_with fail
  refine wp_region_tree (PX pp w.heap.size Cp Cx) (fun k => ([] : List Nat).contains k) (.take [0, 1, 2, 3, 4, 5] (.step 6 (.take [7, 8, 9, 10] .done))) (by kernel_rfl) (by kernel_rfl) (by kernel_rfl) (by kernel_rfl) (.take (.cons (.zero) (.cons (.succ (.zero)) (.cons (.succ (.succ (.zero))) (.cons (.succ (.succ (.succ (.zero)))) (.cons (.succ (.succ (.succ (.succ (.zero))))) (.cons (.succ (.succ (.succ (.succ (.succ (.zero)))))) .nil)))))) (.step (.succ (.succ (.succ (.succ (.succ (.succ (.zero))))))) rfl (.take (.cons (.succ (.succ (.succ (.succ (.succ (.succ (.succ (.zero)))))))) (.cons (.succ (.succ (.succ (.succ (.succ (.succ (.succ (.succ (.zero))))))))) (.cons (.succ (.succ (.succ (.succ (.succ (.succ (.succ (.succ (.succ (.zero)))))))))) (.cons (.succ (.succ (.succ (.succ (.succ (.succ (.succ (.succ (.succ (.succ (.zero))))))))))) .nil)))) .done))) ?hQ ?hS ?_
  case hQ => exact fun _ _ _ _ _ h => h
  case hS => exact HZ.out
  refine wpT_take ?_
  repeat (first | go_big_quiet_step ((fail)) | quiet_step ((fail)))
  refine wpQuiet_nil ?_
  clear hd
  generalize w2.drew = w3 at *
  refine wpT_step rfl ?_
  intro K1 hK1
  go_wp2_with fail
  with_reducible refine (Var_p HPL.out LZ.out hq v hv).mono ?_
  intro e w4 ho
  have HZ4 := hide (api_keep ho LZ.out.ar HZ.out)
  obtain ⟨x, y, rfl, ho⟩ := api_two ho BZ.out
  have HO := hide ho
  clear ho
  refine hK1.out _ _ (fun _ => pin_mem HZ4.out) ?_
  clear hK1
  refine wpT_take ?_
  repeat (first | go_big_quiet_step ((fail)) | quiet_step ((fail)))
  refine wpQuiet_nil ?_
  refine wpT_done ?_
  go_wp2_with fail
  go_ret2
  exact HO.out
set_option maxHeartbeats 4000000 in
set_option maxRecDepth 100000 in
theorem call0_bad (h : PlM D B w pp k s n ms ns Vn ts vs Vt Hs Vh) (P : Pl s n ms q Fs ns ts Hs) (L : Live w k s) (hq : q ≤ 60) (X : ActM B w xf xg xh xi A1 c1 l1 A2 c2 l2 A3 c3 l3) (hbad : xi < 0 ∨ (n : Int) ≤ xi) :
    Calls Tryz.prog 28 #[.pointer (some ⟨pp, 0, none⟩), .agg (actC 0 xf xg xh xi xb A1 l1.length c1 A2 l2.length c2 A3 l3.length c3)] w (BadOut w) := by
  have hbx := bel_one w (.cells #[.int .u8 0, .int .i64 xf, .int .i64 xg, .int .i64 xh, .int .i64 xi, .bool xb, .slice A1 l1.length c1, .slice A2 l2.length c2, .slice A3 l3.length c3] 39)
  have HP1 := hide (h.below hbx)
  have hx0 := heap_new w (.cells #[.int .u8 0, .int .i64 xf, .int .i64 xg, .int .i64 xh, .int .i64 xi, .bool xb, .slice A1 l1.length c1, .slice A2 l2.length c2, .slice A3 l3.length c3] 39)
  have HX1 := hide hx0
  have HL1 := hide (L.below hbx)
  have HX2 := hide (X.below hbx)
  have HB1 := hide hbx
  have HN := hide (fun (v : Int) (hv : I64 v) (z : World) (hz : PlM D B z pp k s n ms ns Vn ts vs Vt Hs Vh) => node_any hz P.two (by have := P.sm; omega) v hv)
  have HPL := hide P
  have HI := hide (And.intro X.f (And.intro X.g (And.intro X.h X.i)))
  have HCL : Hid (∀ z, Live z k s → ActM B z xf xg xh xi A1 c1 l1 A2 c2 l2 A3 c3 l3 → Calls Tryz.prog 54 #[.pointer (some ⟨k.p, 0, none⟩), .int .i64 xi] z (BadOut z)) := hide (fun z LZ XZ => by
    exact (var_bad k s xi z LZ.ar (by rw [HPL.out.vs]; exact hbad)).mono (fun e w' he => ⟨he.1, by rw [he.2]; exact Below.refl _ _⟩))
  clear h X L hbx hx0 P hbad
  go_enter Tryz.func28, Tryz.ntmps28
  go_upto_region 1 with fail
  generalize w.alloc (.cells #[.int .u8 0, .int .i64 xf, .int .i64 xg, .int .i64 xh, .int .i64 xi, .bool xb, .slice A1 l1.length c1, .slice A2 l2.length c2, .slice A3 l3.length c3] 39) = w1 at *
  have b1 := lat_cell (cell_heap (j := 1) HX1.out rfl)
  have b2 := lat_cell (cell_heap (j := 2) HX1.out rfl)
  have b3 := lat_cell (cell_heap (j := 3) HX1.out rfl)
  have HF := hide (fun z => HN.out xf HI.out.1 (lat w1 z) (HP1.out.below (lat_below w1 z)))
  have HG := hide (fun z => HN.out xg HI.out.2.1 (lat w1 z) (HP1.out.below (lat_below w1 z)))
  have HH := hide (fun z => HN.out xh HI.out.2.2.1 (lat w1 z) (HP1.out.below (lat_below w1 z)))
  clear HN HI
  generalize nodeP ns xf = yf at *
  generalize nodeP ns xg = yg at *
  generalize nodeP ns xh = yh at *
  go_wp2_with fail
  refine wp_region_lat (by kernel_rfl) (by kernel_rfl) ?_
  repeat (first | go_big_quiet_step ((first | (go_at_call 14; with_reducible exact calls_lat (HF.out _)) | (go_at_call 14; with_reducible exact calls_lat (HG.out _)) | (go_at_call 14; with_reducible exact calls_lat (HH.out _)))) | quiet_step ((first | (go_at_call 14; with_reducible exact calls_lat (HF.out _)) | (go_at_call 14; with_reducible exact calls_lat (HG.out _)) | (go_at_call 14; with_reducible exact calls_lat (HH.out _)))))
  refine wpQuiet_nil ?_
  intro _ hlat
  obtain ⟨wq, rfl⟩ := hlat
  have HP2 := hide (HP1.out.below (lat_below w1 wq))
  have hx2 := heapB (lat_below w1 wq) HX1.out
  have HL2 := hide (HL1.out.below (lat_below w1 wq))
  have HX3 := hide (HX2.out.below (lat_below w1 wq))
  have HB2 := hide (below_wide HB1.out (lat_below w1 wq))
  clear HP1 HX1 HL1 HX2 HB1 b1 b2 b3 HF HG HH
  generalize lat w1 wq = w2 at *
  have hd := cell_heap (j := 0) hx2 rfl
  have hc := HP2.out.cell (j := 0) rfl
  have hc1 := lat_cell hc
  have g4 := lat_cell (cell_heap (j := 4) hx2 rfl)
  clear hx2
  have HCQ := hide (fun z => HCL.out (lat w2 z) (HL2.out.below (lat_below w2 z)) (HX3.out.below (lat_below w2 z)))
  go_wp2_with fail
  refine wp_region_lat (by kernel_rfl) (by kernel_rfl) ?_
  repeat (first | go_big_quiet_step ((go_at_call 54; with_reducible exact calls_lat (HCQ.out _))) | quiet_step ((go_at_call 54; with_reducible exact calls_lat (HCQ.out _))))
  refine wpQuiet_nil ?_
  intro _ hlat
  obtain ⟨wp, rfl⟩ := hlat
  clear hd hc
  go_wp2_with fail
  go_ret2
  exact ⟨rfl, below_wide HB2.out (lat_below _ _)⟩
set_option maxHeartbeats 4000000 in
set_option maxRecDepth 100000 in
theorem call1_good (h : PlM D B w pp k s n ms ns Vn ts vs Vt Hs Vh) (P : Pl s n ms q Fs ns ts Hs) (L : Live w k s) (hq : q ≤ 60) (X : ActM B w xf xg xh xi A1 c1 l1 A2 c2 l2 A3 c3 l3) (af : Nat) (F : Env → Bool) (ef : nodeP ns xf = (af : Int)) (nf : Nod s af (lowV n) F) :
    Calls Tryz.prog 28 #[.pointer (some ⟨pp, 0, none⟩), .agg (actC 1 xf xg xh xi xb A1 l1.length c1 A2 l2.length c2 A3 l3.length c3)] w (ApiOut k s w 1538 (OkSem (lowV n) (fun ρ => if F ρ then false else true))) := by
  have hbx := bel_one w (.cells #[.int .u8 1, .int .i64 xf, .int .i64 xg, .int .i64 xh, .int .i64 xi, .bool xb, .slice A1 l1.length c1, .slice A2 l2.length c2, .slice A3 l3.length c3] 39)
  have HP1 := hide (h.below hbx)
  have hx0 := heap_new w (.cells #[.int .u8 1, .int .i64 xf, .int .i64 xg, .int .i64 xh, .int .i64 xi, .bool xb, .slice A1 l1.length c1, .slice A2 l2.length c2, .slice A3 l3.length c3] 39)
  have HX1 := hide hx0
  have HL1 := hide (L.below hbx)
  have HX2 := hide (X.below hbx)
  have HB1 := hide hbx
  have HN := hide (fun (v : Int) (hv : I64 v) (z : World) (hz : PlM D B z pp k s n ms ns Vn ts vs Vt Hs Vh) => node_any hz P.two (by have := P.sm; omega) v hv)
  have HPL := hide P
  have HI := hide (And.intro X.f (And.intro X.g (And.intro X.h X.i)))
  clear h X L hbx hx0 P
  go_enter Tryz.func28, Tryz.ntmps28
  go_upto_region 1 with fail
  generalize w.alloc (.cells #[.int .u8 1, .int .i64 xf, .int .i64 xg, .int .i64 xh, .int .i64 xi, .bool xb, .slice A1 l1.length c1, .slice A2 l2.length c2, .slice A3 l3.length c3] 39) = w1 at *
  have b1 := lat_cell (cell_heap (j := 1) HX1.out rfl)
  have b2 := lat_cell (cell_heap (j := 2) HX1.out rfl)
  have b3 := lat_cell (cell_heap (j := 3) HX1.out rfl)
  have HF := hide (fun z => HN.out xf HI.out.1 (lat w1 z) (HP1.out.below (lat_below w1 z)))
  have HG := hide (fun z => HN.out xg HI.out.2.1 (lat w1 z) (HP1.out.below (lat_below w1 z)))
  have HH := hide (fun z => HN.out xh HI.out.2.2.1 (lat w1 z) (HP1.out.below (lat_below w1 z)))
  rw [ef] at HF
  clear HN HI
  go_wp2_with fail
  refine wp_region_lat (by kernel_rfl) (by kernel_rfl) ?_
  repeat (first | go_big_quiet_step ((first | (go_at_call 14; with_reducible exact calls_lat (HF.out _)) | (go_at_call 14; with_reducible exact calls_lat (HG.out _)) | (go_at_call 14; with_reducible exact calls_lat (HH.out _)))) | quiet_step ((first | (go_at_call 14; with_reducible exact calls_lat (HF.out _)) | (go_at_call 14; with_reducible exact calls_lat (HG.out _)) | (go_at_call 14; with_reducible exact calls_lat (HH.out _)))))
  refine wpQuiet_nil ?_
  intro _ hlat
  obtain ⟨wq, rfl⟩ := hlat
  have HP2 := hide (HP1.out.below (lat_below w1 wq))
  have hx2 := heapB (lat_below w1 wq) HX1.out
  have HL2 := hide (HL1.out.below (lat_below w1 wq))
  have HX3 := hide (HX2.out.below (lat_below w1 wq))
  have HB2 := hide (below_wide HB1.out (lat_below w1 wq))
  clear HP1 HX1 HL1 HX2 HB1 b1 b2 b3 HF HG HH
  generalize lat w1 wq = w2 at *
  have hd := cell_heap (j := 0) hx2 rfl
  have hc := HP2.out.cell (j := 0) rfl
  have LZ := HL2
  clear hx2
  go_wp2_with fail
  with_reducible refine (Not_p HPL.out LZ.out hq nf).mono ?_
  intro e w4 ho
  obtain ⟨x, y, rfl, ho⟩ := api_two ho HB2.out
  have HO := hide ho
  clear ho hd hc
  go_wp2_with fail
  go_ret2
  exact HO.out
set_option maxHeartbeats 4000000 in
set_option maxRecDepth 100000 in
theorem call1_bad (h : PlM D B w pp k s n ms ns Vn ts vs Vt Hs Vh) (P : Pl s n ms q Fs ns ts Hs) (L : Live w k s) (hq : q ≤ 60) (X : ActM B w xf xg xh xi A1 c1 l1 A2 c2 l2 A3 c3 l3) (hbad : xf < 0) :
    Calls Tryz.prog 28 #[.pointer (some ⟨pp, 0, none⟩), .agg (actC 1 xf xg xh xi xb A1 l1.length c1 A2 l2.length c2 A3 l3.length c3)] w (BadOut w) := by
  have hbx := bel_one w (.cells #[.int .u8 1, .int .i64 xf, .int .i64 xg, .int .i64 xh, .int .i64 xi, .bool xb, .slice A1 l1.length c1, .slice A2 l2.length c2, .slice A3 l3.length c3] 39)
  have HP1 := hide (h.below hbx)
  have hx0 := heap_new w (.cells #[.int .u8 1, .int .i64 xf, .int .i64 xg, .int .i64 xh, .int .i64 xi, .bool xb, .slice A1 l1.length c1, .slice A2 l2.length c2, .slice A3 l3.length c3] 39)
  have HX1 := hide hx0
  have HL1 := hide (L.below hbx)
  have HX2 := hide (X.below hbx)
  have HB1 := hide hbx
  have HN := hide (fun (v : Int) (hv : I64 v) (z : World) (hz : PlM D B z pp k s n ms ns Vn ts vs Vt Hs Vh) => node_any hz P.two (by have := P.sm; omega) v hv)
  have HPL := hide P
  have HI := hide (And.intro X.f (And.intro X.g (And.intro X.h X.i)))
  have HCL : Hid (∀ z, Live z k s → ActM B z xf xg xh xi A1 c1 l1 A2 c2 l2 A3 c3 l3 → Calls Tryz.prog 55 #[.pointer (some ⟨k.p, 0, none⟩), .int .i64 (nodeP ns xf)] z (BadOut z)) := hide (fun z LZ XZ => by
    have hg : gvn s [nodeP ns xf, 0, 1] = 1 := HPL.out.gv_neg hbad (by simp)
    exact Not_bad k s _ z LZ.ar (HPL.out.node64 LZ hq xf) hg)
  clear h X L hbx hx0 P hbad
  go_enter Tryz.func28, Tryz.ntmps28
  go_upto_region 1 with fail
  generalize w.alloc (.cells #[.int .u8 1, .int .i64 xf, .int .i64 xg, .int .i64 xh, .int .i64 xi, .bool xb, .slice A1 l1.length c1, .slice A2 l2.length c2, .slice A3 l3.length c3] 39) = w1 at *
  have b1 := lat_cell (cell_heap (j := 1) HX1.out rfl)
  have b2 := lat_cell (cell_heap (j := 2) HX1.out rfl)
  have b3 := lat_cell (cell_heap (j := 3) HX1.out rfl)
  have HF := hide (fun z => HN.out xf HI.out.1 (lat w1 z) (HP1.out.below (lat_below w1 z)))
  have HG := hide (fun z => HN.out xg HI.out.2.1 (lat w1 z) (HP1.out.below (lat_below w1 z)))
  have HH := hide (fun z => HN.out xh HI.out.2.2.1 (lat w1 z) (HP1.out.below (lat_below w1 z)))
  clear HN HI
  generalize nodeP ns xf = yf at *
  generalize nodeP ns xg = yg at *
  generalize nodeP ns xh = yh at *
  go_wp2_with fail
  refine wp_region_lat (by kernel_rfl) (by kernel_rfl) ?_
  repeat (first | go_big_quiet_step ((first | (go_at_call 14; with_reducible exact calls_lat (HF.out _)) | (go_at_call 14; with_reducible exact calls_lat (HG.out _)) | (go_at_call 14; with_reducible exact calls_lat (HH.out _)))) | quiet_step ((first | (go_at_call 14; with_reducible exact calls_lat (HF.out _)) | (go_at_call 14; with_reducible exact calls_lat (HG.out _)) | (go_at_call 14; with_reducible exact calls_lat (HH.out _)))))
  refine wpQuiet_nil ?_
  intro _ hlat
  obtain ⟨wq, rfl⟩ := hlat
  have HP2 := hide (HP1.out.below (lat_below w1 wq))
  have hx2 := heapB (lat_below w1 wq) HX1.out
  have HL2 := hide (HL1.out.below (lat_below w1 wq))
  have HX3 := hide (HX2.out.below (lat_below w1 wq))
  have HB2 := hide (below_wide HB1.out (lat_below w1 wq))
  clear HP1 HX1 HL1 HX2 HB1 b1 b2 b3 HF HG HH
  generalize lat w1 wq = w2 at *
  have hd := cell_heap (j := 0) hx2 rfl
  have hc := HP2.out.cell (j := 0) rfl
  clear hx2
  go_wp2_with fail
  with_reducible refine (HCL.out w2 HL2.out HX3.out).mono ?_
  rintro e w4 ⟨rfl, hb⟩
  have HB4 := hide (below_wide HB2.out hb)
  clear hb hd hc
  go_wp2_with fail
  go_ret2
  exact ⟨rfl, HB4.out⟩
set_option maxHeartbeats 4000000 in
set_option maxRecDepth 100000 in
theorem call2_good (h : PlM D B w pp k s n ms ns Vn ts vs Vt Hs Vh) (P : Pl s n ms q Fs ns ts Hs) (L : Live w k s) (hq : q ≤ 60) (X : ActM B w xf xg xh xi A1 c1 l1 A2 c2 l2 A3 c3 l3) (af : Nat) (F : Env → Bool) (ef : nodeP ns xf = (af : Int)) (nf : Nod s af (lowV n) F) (ag : Nat) (G : Env → Bool) (eg : nodeP ns xg = (ag : Int)) (ng : Nod s ag (lowV n) G) :
    Calls Tryz.prog 28 #[.pointer (some ⟨pp, 0, none⟩), .agg (actC 2 xf xg xh xi xb A1 l1.length c1 A2 l2.length c2 A3 l3.length c3)] w (ApiOut k s w 1538 (OkSem (lowV n) (fun ρ => if F ρ then G ρ else false))) := by
  have hbx := bel_one w (.cells #[.int .u8 2, .int .i64 xf, .int .i64 xg, .int .i64 xh, .int .i64 xi, .bool xb, .slice A1 l1.length c1, .slice A2 l2.length c2, .slice A3 l3.length c3] 39)
  have HP1 := hide (h.below hbx)
  have hx0 := heap_new w (.cells #[.int .u8 2, .int .i64 xf, .int .i64 xg, .int .i64 xh, .int .i64 xi, .bool xb, .slice A1 l1.length c1, .slice A2 l2.length c2, .slice A3 l3.length c3] 39)
  have HX1 := hide hx0
  have HL1 := hide (L.below hbx)
  have HX2 := hide (X.below hbx)
  have HB1 := hide hbx
  have HN := hide (fun (v : Int) (hv : I64 v) (z : World) (hz : PlM D B z pp k s n ms ns Vn ts vs Vt Hs Vh) => node_any hz P.two (by have := P.sm; omega) v hv)
  have HPL := hide P
  have HI := hide (And.intro X.f (And.intro X.g (And.intro X.h X.i)))
  clear h X L hbx hx0 P
  go_enter Tryz.func28, Tryz.ntmps28
  go_upto_region 1 with fail
  generalize w.alloc (.cells #[.int .u8 2, .int .i64 xf, .int .i64 xg, .int .i64 xh, .int .i64 xi, .bool xb, .slice A1 l1.length c1, .slice A2 l2.length c2, .slice A3 l3.length c3] 39) = w1 at *
  have b1 := lat_cell (cell_heap (j := 1) HX1.out rfl)
  have b2 := lat_cell (cell_heap (j := 2) HX1.out rfl)
  have b3 := lat_cell (cell_heap (j := 3) HX1.out rfl)
  have HF := hide (fun z => HN.out xf HI.out.1 (lat w1 z) (HP1.out.below (lat_below w1 z)))
  have HG := hide (fun z => HN.out xg HI.out.2.1 (lat w1 z) (HP1.out.below (lat_below w1 z)))
  have HH := hide (fun z => HN.out xh HI.out.2.2.1 (lat w1 z) (HP1.out.below (lat_below w1 z)))
  rw [ef] at HF
  rw [eg] at HG
  clear HN HI
  go_wp2_with fail
  refine wp_region_lat (by kernel_rfl) (by kernel_rfl) ?_
  repeat (first | go_big_quiet_step ((first | (go_at_call 14; with_reducible exact calls_lat (HF.out _)) | (go_at_call 14; with_reducible exact calls_lat (HG.out _)) | (go_at_call 14; with_reducible exact calls_lat (HH.out _)))) | quiet_step ((first | (go_at_call 14; with_reducible exact calls_lat (HF.out _)) | (go_at_call 14; with_reducible exact calls_lat (HG.out _)) | (go_at_call 14; with_reducible exact calls_lat (HH.out _)))))
  refine wpQuiet_nil ?_
  intro _ hlat
  obtain ⟨wq, rfl⟩ := hlat
  have HP2 := hide (HP1.out.below (lat_below w1 wq))
  have hx2 := heapB (lat_below w1 wq) HX1.out
  have HL2 := hide (HL1.out.below (lat_below w1 wq))
  have HX3 := hide (HX2.out.below (lat_below w1 wq))
  have HB2 := hide (below_wide HB1.out (lat_below w1 wq))
  clear HP1 HX1 HL1 HX2 HB1 b1 b2 b3 HF HG HH
  generalize lat w1 wq = w2 at *
  have hd := cell_heap (j := 0) hx2 rfl
  have hc := HP2.out.cell (j := 0) rfl
  have LZ := HL2
  clear hx2
  go_wp2_with fail
  with_reducible refine (And_p HPL.out LZ.out hq nf ng).mono ?_
  intro e w4 ho
  obtain ⟨x, y, rfl, ho⟩ := api_two ho HB2.out
  have HO := hide ho
  clear ho hd hc
  go_wp2_with fail
  go_ret2
  exact HO.out
set_option maxHeartbeats 4000000 in
set_option maxRecDepth 100000 in
theorem call2_bad (h : PlM D B w pp k s n ms ns Vn ts vs Vt Hs Vh) (P : Pl s n ms q Fs ns ts Hs) (L : Live w k s) (hq : q ≤ 60) (X : ActM B w xf xg xh xi A1 c1 l1 A2 c2 l2 A3 c3 l3) (hbad : xf < 0 ∨ xg < 0) :
    Calls Tryz.prog 28 #[.pointer (some ⟨pp, 0, none⟩), .agg (actC 2 xf xg xh xi xb A1 l1.length c1 A2 l2.length c2 A3 l3.length c3)] w (BadOut w) := by
  have hbx := bel_one w (.cells #[.int .u8 2, .int .i64 xf, .int .i64 xg, .int .i64 xh, .int .i64 xi, .bool xb, .slice A1 l1.length c1, .slice A2 l2.length c2, .slice A3 l3.length c3] 39)
  have HP1 := hide (h.below hbx)
  have hx0 := heap_new w (.cells #[.int .u8 2, .int .i64 xf, .int .i64 xg, .int .i64 xh, .int .i64 xi, .bool xb, .slice A1 l1.length c1, .slice A2 l2.length c2, .slice A3 l3.length c3] 39)
  have HX1 := hide hx0
  have HL1 := hide (L.below hbx)
  have HX2 := hide (X.below hbx)
  have HB1 := hide hbx
  have HN := hide (fun (v : Int) (hv : I64 v) (z : World) (hz : PlM D B z pp k s n ms ns Vn ts vs Vt Hs Vh) => node_any hz P.two (by have := P.sm; omega) v hv)
  have HPL := hide P
  have HI := hide (And.intro X.f (And.intro X.g (And.intro X.h X.i)))
  have HCL : Hid (∀ z, Live z k s → ActM B z xf xg xh xi A1 c1 l1 A2 c2 l2 A3 c3 l3 → Calls Tryz.prog 56 #[.pointer (some ⟨k.p, 0, none⟩), .int .i64 (nodeP ns xf), .int .i64 (nodeP ns xg)] z (BadOut z)) := hide (fun z LZ XZ => by
    have hg : gvn s [nodeP ns xf, nodeP ns xg, 0] = 1 := by rcases hbad with hbad | hbad <;> exact HPL.out.gv_neg hbad (by simp)
    exact And_bad k s _ _ z LZ.ar (HPL.out.node64 LZ hq xf) (HPL.out.node64 LZ hq xg) hg)
  clear h X L hbx hx0 P hbad
  go_enter Tryz.func28, Tryz.ntmps28
  go_upto_region 1 with fail
  generalize w.alloc (.cells #[.int .u8 2, .int .i64 xf, .int .i64 xg, .int .i64 xh, .int .i64 xi, .bool xb, .slice A1 l1.length c1, .slice A2 l2.length c2, .slice A3 l3.length c3] 39) = w1 at *
  have b1 := lat_cell (cell_heap (j := 1) HX1.out rfl)
  have b2 := lat_cell (cell_heap (j := 2) HX1.out rfl)
  have b3 := lat_cell (cell_heap (j := 3) HX1.out rfl)
  have HF := hide (fun z => HN.out xf HI.out.1 (lat w1 z) (HP1.out.below (lat_below w1 z)))
  have HG := hide (fun z => HN.out xg HI.out.2.1 (lat w1 z) (HP1.out.below (lat_below w1 z)))
  have HH := hide (fun z => HN.out xh HI.out.2.2.1 (lat w1 z) (HP1.out.below (lat_below w1 z)))
  clear HN HI
  generalize nodeP ns xf = yf at *
  generalize nodeP ns xg = yg at *
  generalize nodeP ns xh = yh at *
  go_wp2_with fail
  refine wp_region_lat (by kernel_rfl) (by kernel_rfl) ?_
  repeat (first | go_big_quiet_step ((first | (go_at_call 14; with_reducible exact calls_lat (HF.out _)) | (go_at_call 14; with_reducible exact calls_lat (HG.out _)) | (go_at_call 14; with_reducible exact calls_lat (HH.out _)))) | quiet_step ((first | (go_at_call 14; with_reducible exact calls_lat (HF.out _)) | (go_at_call 14; with_reducible exact calls_lat (HG.out _)) | (go_at_call 14; with_reducible exact calls_lat (HH.out _)))))
  refine wpQuiet_nil ?_
  intro _ hlat
  obtain ⟨wq, rfl⟩ := hlat
  have HP2 := hide (HP1.out.below (lat_below w1 wq))
  have hx2 := heapB (lat_below w1 wq) HX1.out
  have HL2 := hide (HL1.out.below (lat_below w1 wq))
  have HX3 := hide (HX2.out.below (lat_below w1 wq))
  have HB2 := hide (below_wide HB1.out (lat_below w1 wq))
  clear HP1 HX1 HL1 HX2 HB1 b1 b2 b3 HF HG HH
  generalize lat w1 wq = w2 at *
  have hd := cell_heap (j := 0) hx2 rfl
  have hc := HP2.out.cell (j := 0) rfl
  clear hx2
  go_wp2_with fail
  with_reducible refine (HCL.out w2 HL2.out HX3.out).mono ?_
  rintro e w4 ⟨rfl, hb⟩
  have HB4 := hide (below_wide HB2.out hb)
  clear hb hd hc
  go_wp2_with fail
  go_ret2
  exact ⟨rfl, HB4.out⟩
set_option maxHeartbeats 4000000 in
set_option maxRecDepth 100000 in
theorem call3_good (h : PlM D B w pp k s n ms ns Vn ts vs Vt Hs Vh) (P : Pl s n ms q Fs ns ts Hs) (L : Live w k s) (hq : q ≤ 60) (X : ActM B w xf xg xh xi A1 c1 l1 A2 c2 l2 A3 c3 l3) (af : Nat) (F : Env → Bool) (ef : nodeP ns xf = (af : Int)) (nf : Nod s af (lowV n) F) (ag : Nat) (G : Env → Bool) (eg : nodeP ns xg = (ag : Int)) (ng : Nod s ag (lowV n) G) :
    Calls Tryz.prog 28 #[.pointer (some ⟨pp, 0, none⟩), .agg (actC 3 xf xg xh xi xb A1 l1.length c1 A2 l2.length c2 A3 l3.length c3)] w (ApiOut k s w 1538 (OkSem (lowV n) (fun ρ => if F ρ then true else G ρ))) := by
  have hbx := bel_one w (.cells #[.int .u8 3, .int .i64 xf, .int .i64 xg, .int .i64 xh, .int .i64 xi, .bool xb, .slice A1 l1.length c1, .slice A2 l2.length c2, .slice A3 l3.length c3] 39)
  have HP1 := hide (h.below hbx)
  have hx0 := heap_new w (.cells #[.int .u8 3, .int .i64 xf, .int .i64 xg, .int .i64 xh, .int .i64 xi, .bool xb, .slice A1 l1.length c1, .slice A2 l2.length c2, .slice A3 l3.length c3] 39)
  have HX1 := hide hx0
  have HL1 := hide (L.below hbx)
  have HX2 := hide (X.below hbx)
  have HB1 := hide hbx
  have HN := hide (fun (v : Int) (hv : I64 v) (z : World) (hz : PlM D B z pp k s n ms ns Vn ts vs Vt Hs Vh) => node_any hz P.two (by have := P.sm; omega) v hv)
  have HPL := hide P
  have HI := hide (And.intro X.f (And.intro X.g (And.intro X.h X.i)))
  clear h X L hbx hx0 P
  go_enter Tryz.func28, Tryz.ntmps28
  go_upto_region 1 with fail
  generalize w.alloc (.cells #[.int .u8 3, .int .i64 xf, .int .i64 xg, .int .i64 xh, .int .i64 xi, .bool xb, .slice A1 l1.length c1, .slice A2 l2.length c2, .slice A3 l3.length c3] 39) = w1 at *
  have b1 := lat_cell (cell_heap (j := 1) HX1.out rfl)
  have b2 := lat_cell (cell_heap (j := 2) HX1.out rfl)
  have b3 := lat_cell (cell_heap (j := 3) HX1.out rfl)
  have HF := hide (fun z => HN.out xf HI.out.1 (lat w1 z) (HP1.out.below (lat_below w1 z)))
  have HG := hide (fun z => HN.out xg HI.out.2.1 (lat w1 z) (HP1.out.below (lat_below w1 z)))
  have HH := hide (fun z => HN.out xh HI.out.2.2.1 (lat w1 z) (HP1.out.below (lat_below w1 z)))
  rw [ef] at HF
  rw [eg] at HG
  clear HN HI
  go_wp2_with fail
  refine wp_region_lat (by kernel_rfl) (by kernel_rfl) ?_
  repeat (first | go_big_quiet_step ((first | (go_at_call 14; with_reducible exact calls_lat (HF.out _)) | (go_at_call 14; with_reducible exact calls_lat (HG.out _)) | (go_at_call 14; with_reducible exact calls_lat (HH.out _)))) | quiet_step ((first | (go_at_call 14; with_reducible exact calls_lat (HF.out _)) | (go_at_call 14; with_reducible exact calls_lat (HG.out _)) | (go_at_call 14; with_reducible exact calls_lat (HH.out _)))))
  refine wpQuiet_nil ?_
  intro _ hlat
  obtain ⟨wq, rfl⟩ := hlat
  have HP2 := hide (HP1.out.below (lat_below w1 wq))
  have hx2 := heapB (lat_below w1 wq) HX1.out
  have HL2 := hide (HL1.out.below (lat_below w1 wq))
  have HX3 := hide (HX2.out.below (lat_below w1 wq))
  have HB2 := hide (below_wide HB1.out (lat_below w1 wq))
  clear HP1 HX1 HL1 HX2 HB1 b1 b2 b3 HF HG HH
  generalize lat w1 wq = w2 at *
  have hd := cell_heap (j := 0) hx2 rfl
  have hc := HP2.out.cell (j := 0) rfl
  have LZ := HL2
  clear hx2
  go_wp2_with fail
  with_reducible refine (Or_p HPL.out LZ.out hq nf ng).mono ?_
  intro e w4 ho
  obtain ⟨x, y, rfl, ho⟩ := api_two ho HB2.out
  have HO := hide ho
  clear ho hd hc
  go_wp2_with fail
  go_ret2
  exact HO.out
set_option maxHeartbeats 4000000 in
set_option maxRecDepth 100000 in
theorem call3_bad (h : PlM D B w pp k s n ms ns Vn ts vs Vt Hs Vh) (P : Pl s n ms q Fs ns ts Hs) (L : Live w k s) (hq : q ≤ 60) (X : ActM B w xf xg xh xi A1 c1 l1 A2 c2 l2 A3 c3 l3) (hbad : xf < 0 ∨ xg < 0) :
    Calls Tryz.prog 28 #[.pointer (some ⟨pp, 0, none⟩), .agg (actC 3 xf xg xh xi xb A1 l1.length c1 A2 l2.length c2 A3 l3.length c3)] w (BadOut w) := by
  have hbx := bel_one w (.cells #[.int .u8 3, .int .i64 xf, .int .i64 xg, .int .i64 xh, .int .i64 xi, .bool xb, .slice A1 l1.length c1, .slice A2 l2.length c2, .slice A3 l3.length c3] 39)
  have HP1 := hide (h.below hbx)
  have hx0 := heap_new w (.cells #[.int .u8 3, .int .i64 xf, .int .i64 xg, .int .i64 xh, .int .i64 xi, .bool xb, .slice A1 l1.length c1, .slice A2 l2.length c2, .slice A3 l3.length c3] 39)
  have HX1 := hide hx0
  have HL1 := hide (L.below hbx)
  have HX2 := hide (X.below hbx)
  have HB1 := hide hbx
  have HN := hide (fun (v : Int) (hv : I64 v) (z : World) (hz : PlM D B z pp k s n ms ns Vn ts vs Vt Hs Vh) => node_any hz P.two (by have := P.sm; omega) v hv)
  have HPL := hide P
  have HI := hide (And.intro X.f (And.intro X.g (And.intro X.h X.i)))
  have HCL : Hid (∀ z, Live z k s → ActM B z xf xg xh xi A1 c1 l1 A2 c2 l2 A3 c3 l3 → Calls Tryz.prog 57 #[.pointer (some ⟨k.p, 0, none⟩), .int .i64 (nodeP ns xf), .int .i64 (nodeP ns xg)] z (BadOut z)) := hide (fun z LZ XZ => by
    have hg : gvn s [nodeP ns xf, 1, nodeP ns xg] = 1 := by rcases hbad with hbad | hbad <;> exact HPL.out.gv_neg hbad (by simp)
    exact Or_bad k s _ _ z LZ.ar (HPL.out.node64 LZ hq xf) (HPL.out.node64 LZ hq xg) hg)
  clear h X L hbx hx0 P hbad
  go_enter Tryz.func28, Tryz.ntmps28
  go_upto_region 1 with fail
  generalize w.alloc (.cells #[.int .u8 3, .int .i64 xf, .int .i64 xg, .int .i64 xh, .int .i64 xi, .bool xb, .slice A1 l1.length c1, .slice A2 l2.length c2, .slice A3 l3.length c3] 39) = w1 at *
  have b1 := lat_cell (cell_heap (j := 1) HX1.out rfl)
  have b2 := lat_cell (cell_heap (j := 2) HX1.out rfl)
  have b3 := lat_cell (cell_heap (j := 3) HX1.out rfl)
  have HF := hide (fun z => HN.out xf HI.out.1 (lat w1 z) (HP1.out.below (lat_below w1 z)))
  have HG := hide (fun z => HN.out xg HI.out.2.1 (lat w1 z) (HP1.out.below (lat_below w1 z)))
  have HH := hide (fun z => HN.out xh HI.out.2.2.1 (lat w1 z) (HP1.out.below (lat_below w1 z)))
  clear HN HI
  generalize nodeP ns xf = yf at *
  generalize nodeP ns xg = yg at *
  generalize nodeP ns xh = yh at *
  go_wp2_with fail
  refine wp_region_lat (by kernel_rfl) (by kernel_rfl) ?_
  repeat (first | go_big_quiet_step ((first | (go_at_call 14; with_reducible exact calls_lat (HF.out _)) | (go_at_call 14; with_reducible exact calls_lat (HG.out _)) | (go_at_call 14; with_reducible exact calls_lat (HH.out _)))) | quiet_step ((first | (go_at_call 14; with_reducible exact calls_lat (HF.out _)) | (go_at_call 14; with_reducible exact calls_lat (HG.out _)) | (go_at_call 14; with_reducible exact calls_lat (HH.out _)))))
  refine wpQuiet_nil ?_
  intro _ hlat
  obtain ⟨wq, rfl⟩ := hlat
  have HP2 := hide (HP1.out.below (lat_below w1 wq))
  have hx2 := heapB (lat_below w1 wq) HX1.out
  have HL2 := hide (HL1.out.below (lat_below w1 wq))
  have HX3 := hide (HX2.out.below (lat_below w1 wq))
  have HB2 := hide (below_wide HB1.out (lat_below w1 wq))
  clear HP1 HX1 HL1 HX2 HB1 b1 b2 b3 HF HG HH
  generalize lat w1 wq = w2 at *
  have hd := cell_heap (j := 0) hx2 rfl
  have hc := HP2.out.cell (j := 0) rfl
  clear hx2
  go_wp2_with fail
  with_reducible refine (HCL.out w2 HL2.out HX3.out).mono ?_
  rintro e w4 ⟨rfl, hb⟩
  have HB4 := hide (below_wide HB2.out hb)
  clear hb hd hc
  go_wp2_with fail
  go_ret2
  exact ⟨rfl, HB4.out⟩
set_option maxHeartbeats 4000000 in
set_option maxRecDepth 100000 in
theorem call4_good (h : PlM D B w pp k s n ms ns Vn ts vs Vt Hs Vh) (P : Pl s n ms q Fs ns ts Hs) (L : Live w k s) (hq : q ≤ 60) (X : ActM B w xf xg xh xi A1 c1 l1 A2 c2 l2 A3 c3 l3) (af : Nat) (F : Env → Bool) (ef : nodeP ns xf = (af : Int)) (nf : Nod s af (lowV n) F) (ag : Nat) (G : Env → Bool) (eg : nodeP ns xg = (ag : Int)) (ng : Nod s ag (lowV n) G) :
    Calls Tryz.prog 28 #[.pointer (some ⟨pp, 0, none⟩), .agg (actC 4 xf xg xh xi xb A1 l1.length c1 A2 l2.length c2 A3 l3.length c3)] w (ApiOut k s w 1538 (OkSem (lowV n) (fun ρ => if F ρ then (if G ρ then false else true) else G ρ))) := by
  have hbx := bel_one w (.cells #[.int .u8 4, .int .i64 xf, .int .i64 xg, .int .i64 xh, .int .i64 xi, .bool xb, .slice A1 l1.length c1, .slice A2 l2.length c2, .slice A3 l3.length c3] 39)
  have HP1 := hide (h.below hbx)
  have hx0 := heap_new w (.cells #[.int .u8 4, .int .i64 xf, .int .i64 xg, .int .i64 xh, .int .i64 xi, .bool xb, .slice A1 l1.length c1, .slice A2 l2.length c2, .slice A3 l3.length c3] 39)
  have HX1 := hide hx0
  have HL1 := hide (L.below hbx)
  have HX2 := hide (X.below hbx)
  have HB1 := hide hbx
  have HN := hide (fun (v : Int) (hv : I64 v) (z : World) (hz : PlM D B z pp k s n ms ns Vn ts vs Vt Hs Vh) => node_any hz P.two (by have := P.sm; omega) v hv)
  have HPL := hide P
  have HI := hide (And.intro X.f (And.intro X.g (And.intro X.h X.i)))
  clear h X L hbx hx0 P
  go_enter Tryz.func28, Tryz.ntmps28
  go_upto_region 1 with fail
  generalize w.alloc (.cells #[.int .u8 4, .int .i64 xf, .int .i64 xg, .int .i64 xh, .int .i64 xi, .bool xb, .slice A1 l1.length c1, .slice A2 l2.length c2, .slice A3 l3.length c3] 39) = w1 at *
  have b1 := lat_cell (cell_heap (j := 1) HX1.out rfl)
  have b2 := lat_cell (cell_heap (j := 2) HX1.out rfl)
  have b3 := lat_cell (cell_heap (j := 3) HX1.out rfl)
  have HF := hide (fun z => HN.out xf HI.out.1 (lat w1 z) (HP1.out.below (lat_below w1 z)))
  have HG := hide (fun z => HN.out xg HI.out.2.1 (lat w1 z) (HP1.out.below (lat_below w1 z)))
  have HH := hide (fun z => HN.out xh HI.out.2.2.1 (lat w1 z) (HP1.out.below (lat_below w1 z)))
  rw [ef] at HF
  rw [eg] at HG
  clear HN HI
  go_wp2_with fail
  refine wp_region_lat (by kernel_rfl) (by kernel_rfl) ?_
  repeat (first | go_big_quiet_step ((first | (go_at_call 14; with_reducible exact calls_lat (HF.out _)) | (go_at_call 14; with_reducible exact calls_lat (HG.out _)) | (go_at_call 14; with_reducible exact calls_lat (HH.out _)))) | quiet_step ((first | (go_at_call 14; with_reducible exact calls_lat (HF.out _)) | (go_at_call 14; with_reducible exact calls_lat (HG.out _)) | (go_at_call 14; with_reducible exact calls_lat (HH.out _)))))
  refine wpQuiet_nil ?_
  intro _ hlat
  obtain ⟨wq, rfl⟩ := hlat
  have HP2 := hide (HP1.out.below (lat_below w1 wq))
  have hx2 := heapB (lat_below w1 wq) HX1.out
  have HL2 := hide (HL1.out.below (lat_below w1 wq))
  have HX3 := hide (HX2.out.below (lat_below w1 wq))
  have HB2 := hide (below_wide HB1.out (lat_below w1 wq))
  clear HP1 HX1 HL1 HX2 HB1 b1 b2 b3 HF HG HH
  generalize lat w1 wq = w2 at *
  have hd := cell_heap (j := 0) hx2 rfl
  have hc := HP2.out.cell (j := 0) rfl
  have LZ := HL2
  clear hx2
  go_wp2_with fail
  with_reducible refine (Xor_p HPL.out LZ.out hq nf ng).mono ?_
  intro e w4 ho
  obtain ⟨x, y, rfl, ho⟩ := api_two ho HB2.out
  have HO := hide ho
  clear ho hd hc
  go_wp2_with fail
  go_ret2
  exact HO.out
set_option maxHeartbeats 4000000 in
set_option maxRecDepth 100000 in
theorem call4_bad (h : PlM D B w pp k s n ms ns Vn ts vs Vt Hs Vh) (P : Pl s n ms q Fs ns ts Hs) (L : Live w k s) (hq : q ≤ 60) (X : ActM B w xf xg xh xi A1 c1 l1 A2 c2 l2 A3 c3 l3) (hbad : xf < 0 ∨ xg < 0) :
    Calls Tryz.prog 28 #[.pointer (some ⟨pp, 0, none⟩), .agg (actC 4 xf xg xh xi xb A1 l1.length c1 A2 l2.length c2 A3 l3.length c3)] w (BadOut w) := by
  have hbx := bel_one w (.cells #[.int .u8 4, .int .i64 xf, .int .i64 xg, .int .i64 xh, .int .i64 xi, .bool xb, .slice A1 l1.length c1, .slice A2 l2.length c2, .slice A3 l3.length c3] 39)
  have HP1 := hide (h.below hbx)
  have hx0 := heap_new w (.cells #[.int .u8 4, .int .i64 xf, .int .i64 xg, .int .i64 xh, .int .i64 xi, .bool xb, .slice A1 l1.length c1, .slice A2 l2.length c2, .slice A3 l3.length c3] 39)
  have HX1 := hide hx0
  have HL1 := hide (L.below hbx)
  have HX2 := hide (X.below hbx)
  have HB1 := hide hbx
  have HN := hide (fun (v : Int) (hv : I64 v) (z : World) (hz : PlM D B z pp k s n ms ns Vn ts vs Vt Hs Vh) => node_any hz P.two (by have := P.sm; omega) v hv)
  have HPL := hide P
  have HI := hide (And.intro X.f (And.intro X.g (And.intro X.h X.i)))
  have HCL : Hid (∀ z, Live z k s → ActM B z xf xg xh xi A1 c1 l1 A2 c2 l2 A3 c3 l3 → Calls Tryz.prog 58 #[.pointer (some ⟨k.p, 0, none⟩), .int .i64 (nodeP ns xf), .int .i64 (nodeP ns xg)] z (BadOut z)) := hide (fun z LZ XZ => by
    have hg : gvn s [nodeP ns xf, nodeP ns xg] = 1 := by rcases hbad with hbad | hbad <;> exact HPL.out.gv_neg hbad (by simp)
    exact Xor_bad k s _ _ z LZ.ar (HPL.out.node64 LZ hq xf) (HPL.out.node64 LZ hq xg) hg)
  clear h X L hbx hx0 P hbad
  go_enter Tryz.func28, Tryz.ntmps28
  go_upto_region 1 with fail
  generalize w.alloc (.cells #[.int .u8 4, .int .i64 xf, .int .i64 xg, .int .i64 xh, .int .i64 xi, .bool xb, .slice A1 l1.length c1, .slice A2 l2.length c2, .slice A3 l3.length c3] 39) = w1 at *
  have b1 := lat_cell (cell_heap (j := 1) HX1.out rfl)
  have b2 := lat_cell (cell_heap (j := 2) HX1.out rfl)
  have b3 := lat_cell (cell_heap (j := 3) HX1.out rfl)
  have HF := hide (fun z => HN.out xf HI.out.1 (lat w1 z) (HP1.out.below (lat_below w1 z)))
  have HG := hide (fun z => HN.out xg HI.out.2.1 (lat w1 z) (HP1.out.below (lat_below w1 z)))
  have HH := hide (fun z => HN.out xh HI.out.2.2.1 (lat w1 z) (HP1.out.below (lat_below w1 z)))
  clear HN HI
  generalize nodeP ns xf = yf at *
  generalize nodeP ns xg = yg at *
  generalize nodeP ns xh = yh at *
  go_wp2_with fail
  refine wp_region_lat (by kernel_rfl) (by kernel_rfl) ?_
  repeat (first | go_big_quiet_step ((first | (go_at_call 14; with_reducible exact calls_lat (HF.out _)) | (go_at_call 14; with_reducible exact calls_lat (HG.out _)) | (go_at_call 14; with_reducible exact calls_lat (HH.out _)))) | quiet_step ((first | (go_at_call 14; with_reducible exact calls_lat (HF.out _)) | (go_at_call 14; with_reducible exact calls_lat (HG.out _)) | (go_at_call 14; with_reducible exact calls_lat (HH.out _)))))
  refine wpQuiet_nil ?_
  intro _ hlat
  obtain ⟨wq, rfl⟩ := hlat
  have HP2 := hide (HP1.out.below (lat_below w1 wq))
  have hx2 := heapB (lat_below w1 wq) HX1.out
  have HL2 := hide (HL1.out.below (lat_below w1 wq))
  have HX3 := hide (HX2.out.below (lat_below w1 wq))
  have HB2 := hide (below_wide HB1.out (lat_below w1 wq))
  clear HP1 HX1 HL1 HX2 HB1 b1 b2 b3 HF HG HH
  generalize lat w1 wq = w2 at *
  have hd := cell_heap (j := 0) hx2 rfl
  have hc := HP2.out.cell (j := 0) rfl
  clear hx2
  go_wp2_with fail
  with_reducible refine (HCL.out w2 HL2.out HX3.out).mono ?_
  rintro e w4 ⟨rfl, hb⟩
  have HB4 := hide (below_wide HB2.out hb)
  clear hb hd hc
  go_wp2_with fail
  go_ret2
  exact ⟨rfl, HB4.out⟩
set_option maxHeartbeats 4000000 in
set_option maxRecDepth 100000 in
theorem call5_good (h : PlM D B w pp k s n ms ns Vn ts vs Vt Hs Vh) (P : Pl s n ms q Fs ns ts Hs) (L : Live w k s) (hq : q ≤ 60) (X : ActM B w xf xg xh xi A1 c1 l1 A2 c2 l2 A3 c3 l3) (af : Nat) (F : Env → Bool) (ef : nodeP ns xf = (af : Int)) (nf : Nod s af (lowV n) F) (ag : Nat) (G : Env → Bool) (eg : nodeP ns xg = (ag : Int)) (ng : Nod s ag (lowV n) G) (ah : Nat) (H : Env → Bool) (eh : nodeP ns xh = (ah : Int)) (nh : Nod s ah (lowV n) H) :
    Calls Tryz.prog 28 #[.pointer (some ⟨pp, 0, none⟩), .agg (actC 5 xf xg xh xi xb A1 l1.length c1 A2 l2.length c2 A3 l3.length c3)] w (ApiOut k s w 1538 (OkSem (lowV n) (fun ρ => if F ρ then G ρ else H ρ))) := by
  have hbx := bel_one w (.cells #[.int .u8 5, .int .i64 xf, .int .i64 xg, .int .i64 xh, .int .i64 xi, .bool xb, .slice A1 l1.length c1, .slice A2 l2.length c2, .slice A3 l3.length c3] 39)
  have HP1 := hide (h.below hbx)
  have hx0 := heap_new w (.cells #[.int .u8 5, .int .i64 xf, .int .i64 xg, .int .i64 xh, .int .i64 xi, .bool xb, .slice A1 l1.length c1, .slice A2 l2.length c2, .slice A3 l3.length c3] 39)
  have HX1 := hide hx0
  have HL1 := hide (L.below hbx)
  have HX2 := hide (X.below hbx)
  have HB1 := hide hbx
  have HN := hide (fun (v : Int) (hv : I64 v) (z : World) (hz : PlM D B z pp k s n ms ns Vn ts vs Vt Hs Vh) => node_any hz P.two (by have := P.sm; omega) v hv)
  have HPL := hide P
  have HI := hide (And.intro X.f (And.intro X.g (And.intro X.h X.i)))
  clear h X L hbx hx0 P
  go_enter Tryz.func28, Tryz.ntmps28
  go_upto_region 1 with fail
  generalize w.alloc (.cells #[.int .u8 5, .int .i64 xf, .int .i64 xg, .int .i64 xh, .int .i64 xi, .bool xb, .slice A1 l1.length c1, .slice A2 l2.length c2, .slice A3 l3.length c3] 39) = w1 at *
  have b1 := lat_cell (cell_heap (j := 1) HX1.out rfl)
  have b2 := lat_cell (cell_heap (j := 2) HX1.out rfl)
  have b3 := lat_cell (cell_heap (j := 3) HX1.out rfl)
  have HF := hide (fun z => HN.out xf HI.out.1 (lat w1 z) (HP1.out.below (lat_below w1 z)))
  have HG := hide (fun z => HN.out xg HI.out.2.1 (lat w1 z) (HP1.out.below (lat_below w1 z)))
  have HH := hide (fun z => HN.out xh HI.out.2.2.1 (lat w1 z) (HP1.out.below (lat_below w1 z)))
  rw [ef] at HF
  rw [eg] at HG
  rw [eh] at HH
  clear HN HI
  go_wp2_with fail
  refine wp_region_lat (by kernel_rfl) (by kernel_rfl) ?_
  repeat (first | go_big_quiet_step ((first | (go_at_call 14; with_reducible exact calls_lat (HF.out _)) | (go_at_call 14; with_reducible exact calls_lat (HG.out _)) | (go_at_call 14; with_reducible exact calls_lat (HH.out _)))) | quiet_step ((first | (go_at_call 14; with_reducible exact calls_lat (HF.out _)) | (go_at_call 14; with_reducible exact calls_lat (HG.out _)) | (go_at_call 14; with_reducible exact calls_lat (HH.out _)))))
  refine wpQuiet_nil ?_
  intro _ hlat
  obtain ⟨wq, rfl⟩ := hlat
  have HP2 := hide (HP1.out.below (lat_below w1 wq))
  have hx2 := heapB (lat_below w1 wq) HX1.out
  have HL2 := hide (HL1.out.below (lat_below w1 wq))
  have HX3 := hide (HX2.out.below (lat_below w1 wq))
  have HB2 := hide (below_wide HB1.out (lat_below w1 wq))
  clear HP1 HX1 HL1 HX2 HB1 b1 b2 b3 HF HG HH
  generalize lat w1 wq = w2 at *
  have hd := cell_heap (j := 0) hx2 rfl
  have hc := HP2.out.cell (j := 0) rfl
  have LZ := HL2
  clear hx2
  go_wp2_with fail
  with_reducible refine (Ite_p HPL.out LZ.out hq nf ng nh).mono ?_
  intro e w4 ho
  obtain ⟨x, y, rfl, ho⟩ := api_two ho HB2.out
  have HO := hide ho
  clear ho hd hc
  go_wp2_with fail
  go_ret2
  exact HO.out
set_option maxHeartbeats 4000000 in
set_option maxRecDepth 100000 in
theorem call5_bad (h : PlM D B w pp k s n ms ns Vn ts vs Vt Hs Vh) (P : Pl s n ms q Fs ns ts Hs) (L : Live w k s) (hq : q ≤ 60) (X : ActM B w xf xg xh xi A1 c1 l1 A2 c2 l2 A3 c3 l3) (hbad : xf < 0 ∨ xg < 0 ∨ xh < 0) :
    Calls Tryz.prog 28 #[.pointer (some ⟨pp, 0, none⟩), .agg (actC 5 xf xg xh xi xb A1 l1.length c1 A2 l2.length c2 A3 l3.length c3)] w (BadOut w) := by
  have hbx := bel_one w (.cells #[.int .u8 5, .int .i64 xf, .int .i64 xg, .int .i64 xh, .int .i64 xi, .bool xb, .slice A1 l1.length c1, .slice A2 l2.length c2, .slice A3 l3.length c3] 39)
  have HP1 := hide (h.below hbx)
  have hx0 := heap_new w (.cells #[.int .u8 5, .int .i64 xf, .int .i64 xg, .int .i64 xh, .int .i64 xi, .bool xb, .slice A1 l1.length c1, .slice A2 l2.length c2, .slice A3 l3.length c3] 39)
  have HX1 := hide hx0
  have HL1 := hide (L.below hbx)
  have HX2 := hide (X.below hbx)
  have HB1 := hide hbx
  have HN := hide (fun (v : Int) (hv : I64 v) (z : World) (hz : PlM D B z pp k s n ms ns Vn ts vs Vt Hs Vh) => node_any hz P.two (by have := P.sm; omega) v hv)
  have HPL := hide P
  have HI := hide (And.intro X.f (And.intro X.g (And.intro X.h X.i)))
  have HCL : Hid (∀ z, Live z k s → ActM B z xf xg xh xi A1 c1 l1 A2 c2 l2 A3 c3 l3 → Calls Tryz.prog 59 #[.pointer (some ⟨k.p, 0, none⟩), .int .i64 (nodeP ns xf), .int .i64 (nodeP ns xg), .int .i64 (nodeP ns xh)] z (BadOut z)) := hide (fun z LZ XZ => by
    have hg : gvn s [nodeP ns xf, nodeP ns xg, nodeP ns xh] = 1 := by rcases hbad with hbad | hbad | hbad <;> exact HPL.out.gv_neg hbad (by simp)
    exact Ite_bad k s _ _ _ z LZ.ar (HPL.out.node64 LZ hq xf) (HPL.out.node64 LZ hq xg) (HPL.out.node64 LZ hq xh) hg)
  clear h X L hbx hx0 P hbad
  go_enter Tryz.func28, Tryz.ntmps28
  go_upto_region 1 with fail
  generalize w.alloc (.cells #[.int .u8 5, .int .i64 xf, .int .i64 xg, .int .i64 xh, .int .i64 xi, .bool xb, .slice A1 l1.length c1, .slice A2 l2.length c2, .slice A3 l3.length c3] 39) = w1 at *
  have b1 := lat_cell (cell_heap (j := 1) HX1.out rfl)
  have b2 := lat_cell (cell_heap (j := 2) HX1.out rfl)
  have b3 := lat_cell (cell_heap (j := 3) HX1.out rfl)
  have HF := hide (fun z => HN.out xf HI.out.1 (lat w1 z) (HP1.out.below (lat_below w1 z)))
  have HG := hide (fun z => HN.out xg HI.out.2.1 (lat w1 z) (HP1.out.below (lat_below w1 z)))
  have HH := hide (fun z => HN.out xh HI.out.2.2.1 (lat w1 z) (HP1.out.below (lat_below w1 z)))
  clear HN HI
  generalize nodeP ns xf = yf at *
  generalize nodeP ns xg = yg at *
  generalize nodeP ns xh = yh at *
  go_wp2_with fail
  refine wp_region_lat (by kernel_rfl) (by kernel_rfl) ?_
  repeat (first | go_big_quiet_step ((first | (go_at_call 14; with_reducible exact calls_lat (HF.out _)) | (go_at_call 14; with_reducible exact calls_lat (HG.out _)) | (go_at_call 14; with_reducible exact calls_lat (HH.out _)))) | quiet_step ((first | (go_at_call 14; with_reducible exact calls_lat (HF.out _)) | (go_at_call 14; with_reducible exact calls_lat (HG.out _)) | (go_at_call 14; with_reducible exact calls_lat (HH.out _)))))
  refine wpQuiet_nil ?_
  intro _ hlat
  obtain ⟨wq, rfl⟩ := hlat
  have HP2 := hide (HP1.out.below (lat_below w1 wq))
  have hx2 := heapB (lat_below w1 wq) HX1.out
  have HL2 := hide (HL1.out.below (lat_below w1 wq))
  have HX3 := hide (HX2.out.below (lat_below w1 wq))
  have HB2 := hide (below_wide HB1.out (lat_below w1 wq))
  clear HP1 HX1 HL1 HX2 HB1 b1 b2 b3 HF HG HH
  generalize lat w1 wq = w2 at *
  have hd := cell_heap (j := 0) hx2 rfl
  have hc := HP2.out.cell (j := 0) rfl
  clear hx2
  go_wp2_with fail
  with_reducible refine (HCL.out w2 HL2.out HX3.out).mono ?_
  rintro e w4 ⟨rfl, hb⟩
  have HB4 := hide (below_wide HB2.out hb)
  clear hb hd hc
  go_wp2_with fail
  go_ret2
  exact ⟨rfl, HB4.out⟩
set_option maxHeartbeats 4000000 in
set_option maxRecDepth 100000 in
theorem call6_good (h : PlM D B w pp k s n ms ns Vn ts vs Vt Hs Vh) (P : Pl s n ms q Fs ns ts Hs) (L : Live w k s) (hq : q ≤ 60) (X : ActM B w xf xg xh xi A1 c1 l1 A2 c2 l2 A3 c3 l3) (v : Nat) (hxi : xi = (v : Int)) (hv : v < n) (af : Nat) (F : Env → Bool) (ef : nodeP ns xf = (af : Int)) (nf : Nod s af (lowV n) F) :
    Calls Tryz.prog 28 #[.pointer (some ⟨pp, 0, none⟩), .agg (actC 6 xf xg xh xi xb A1 l1.length c1 A2 l2.length c2 A3 l3.length c3)] w (ApiOut k s w 1538 (OkSem (lowV n) (fun ρ => F (upd ρ v xb)))) := by
  subst hxi
  have hbx := bel_one w (.cells #[.int .u8 6, .int .i64 xf, .int .i64 xg, .int .i64 xh, .int .i64 v, .bool xb, .slice A1 l1.length c1, .slice A2 l2.length c2, .slice A3 l3.length c3] 39)
  have HP1 := hide (h.below hbx)
  have hx0 := heap_new w (.cells #[.int .u8 6, .int .i64 xf, .int .i64 xg, .int .i64 xh, .int .i64 v, .bool xb, .slice A1 l1.length c1, .slice A2 l2.length c2, .slice A3 l3.length c3] 39)
  have HX1 := hide hx0
  have HL1 := hide (L.below hbx)
  have HX2 := hide (X.below hbx)
  have HB1 := hide hbx
  have HN := hide (fun (v : Int) (hv : I64 v) (z : World) (hz : PlM D B z pp k s n ms ns Vn ts vs Vt Hs Vh) => node_any hz P.two (by have := P.sm; omega) v hv)
  have HPL := hide P
  have HI := hide (And.intro X.f (And.intro X.g (And.intro X.h X.i)))
  clear h X L hbx hx0 P
  go_enter Tryz.func28, Tryz.ntmps28
  go_upto_region 1 with fail
  generalize w.alloc (.cells #[.int .u8 6, .int .i64 xf, .int .i64 xg, .int .i64 xh, .int .i64 v, .bool xb, .slice A1 l1.length c1, .slice A2 l2.length c2, .slice A3 l3.length c3] 39) = w1 at *
  have b1 := lat_cell (cell_heap (j := 1) HX1.out rfl)
  have b2 := lat_cell (cell_heap (j := 2) HX1.out rfl)
  have b3 := lat_cell (cell_heap (j := 3) HX1.out rfl)
  have HF := hide (fun z => HN.out xf HI.out.1 (lat w1 z) (HP1.out.below (lat_below w1 z)))
  have HG := hide (fun z => HN.out xg HI.out.2.1 (lat w1 z) (HP1.out.below (lat_below w1 z)))
  have HH := hide (fun z => HN.out xh HI.out.2.2.1 (lat w1 z) (HP1.out.below (lat_below w1 z)))
  rw [ef] at HF
  clear HN HI
  go_wp2_with fail
  refine wp_region_lat (by kernel_rfl) (by kernel_rfl) ?_
  repeat (first | go_big_quiet_step ((first | (go_at_call 14; with_reducible exact calls_lat (HF.out _)) | (go_at_call 14; with_reducible exact calls_lat (HG.out _)) | (go_at_call 14; with_reducible exact calls_lat (HH.out _)))) | quiet_step ((first | (go_at_call 14; with_reducible exact calls_lat (HF.out _)) | (go_at_call 14; with_reducible exact calls_lat (HG.out _)) | (go_at_call 14; with_reducible exact calls_lat (HH.out _)))))
  refine wpQuiet_nil ?_
  intro _ hlat
  obtain ⟨wq, rfl⟩ := hlat
  have HP2 := hide (HP1.out.below (lat_below w1 wq))
  have hx2 := heapB (lat_below w1 wq) HX1.out
  have HL2 := hide (HL1.out.below (lat_below w1 wq))
  have HX3 := hide (HX2.out.below (lat_below w1 wq))
  have HB2 := hide (below_wide HB1.out (lat_below w1 wq))
  clear HP1 HX1 HL1 HX2 HB1 b1 b2 b3 HF HG HH
  generalize lat w1 wq = w2 at *
  obtain ⟨Cp, hCp⟩ : ∃ Cp : Array Value, Cp = #[Value.pointer (some ⟨k.p, 0, none⟩), .int .i64 n, .int .i64 ms, Vn, Vt, Vh] := ⟨_, rfl⟩
  obtain ⟨Cx, hCx⟩ : ∃ Cx : Array Value, Cx = actC 6 xf xg xh v xb A1 l1.length c1 A2 l2.length c2 A3 l3.length c3 := ⟨_, rfl⟩
  have HZ := hide (show PX pp w.heap.size Cp Cx w2.drew from by subst hCp hCx; exact ⟨(HP2.out.below (Below.refl _ _).drew).h, heapB (Below.refl _ _).drew hx2⟩)
  have HPZ := hide (HP2.out.below (Below.refl _ _).drew)
  have LZ := hide (HL2.out.below (Below.refl _ _).drew)
  have XZ := hide (HX3.out.below (Below.refl _ _).drew)
  have BZ := hide (show Below w.heap.size w w2.drew from HB2.out.drew)
  have hd := cell_heap (j := 0) hx2 rfl
  have gp := fun z => cell_heap (j := 0) (pin_in HZ.out z).1 (show Cp[0]? = some (.pointer (some ⟨k.p, 0, none⟩)) from by rw [hCp]; rfl)
  have g4 := fun z => cell_heap (j := 4) (pin_in HZ.out z).2 (show Cx[4]? = some (.int .i64 v) from by rw [hCx]; rfl)
  have g5 := fun z => cell_heap (j := 5) (pin_in HZ.out z).2 (show Cx[5]? = some (.bool xb) from by rw [hCx]; rfl)
  clear hx2 HP2 HL2 HX3 HB2 hCp hCx
  go_wp2_with fail
  refine wp_region_tree (PX pp w.heap.size Cp Cx) (fun k => ([] : List Nat).contains k) (.take [0, 1, 2, 3, 4, 5, 6, 7, 8] (.step 9 (.take [10, 11, 12, 13] .done))) (by kernel_rfl) (by kernel_rfl) (by kernel_rfl) (by kernel_rfl) (.take (.cons (.zero) (.cons (.succ (.zero)) (.cons (.succ (.succ (.zero))) (.cons (.succ (.succ (.succ (.zero)))) (.cons (.succ (.succ (.succ (.succ (.zero))))) (.cons (.succ (.succ (.succ (.succ (.succ (.zero)))))) (.cons (.succ (.succ (.succ (.succ (.succ (.succ (.zero))))))) (.cons (.succ (.succ (.succ (.succ (.succ (.succ (.succ (.zero)))))))) (.cons (.succ (.succ (.succ (.succ (.succ (.succ (.succ (.succ (.zero))))))))) .nil))))))))) (.step (.succ (.succ (.succ (.succ (.succ (.succ (.succ (.succ (.succ (.zero)))))))))) rfl (.take (.cons (.succ (.succ (.succ (.succ (.succ (.succ (.succ (.succ (.succ (.succ (.zero))))))))))) (.cons (.succ (.succ (.succ (.succ (.succ (.succ (.succ (.succ (.succ (.succ (.succ (.zero)))))))))))) (.cons (.succ (.succ (.succ (.succ (.succ (.succ (.succ (.succ (.succ (.succ (.succ (.succ (.zero))))))))))))) (.cons (.succ (.succ (.succ (.succ (.succ (.succ (.succ (.succ (.succ (.succ (.succ (.succ (.succ (.zero)))))))))))))) .nil)))) .done))) ?hQ ?hS ?_
  case hQ => exact fun _ _ _ _ _ h => h
  case hS => exact HZ.out
  refine wpT_take ?_
  repeat (first | go_big_quiet_step ((fail)) | quiet_step ((fail)))
  refine wpQuiet_nil ?_
  clear hd
  generalize w2.drew = w3 at *
  refine wpT_step rfl ?_
  intro K1 hK1
  go_wp2_with fail
  with_reducible refine (Restrict_p HPL.out LZ.out hq nf v xb hv).mono ?_
  intro e w4 ho
  have HZ4 := hide (api_keep ho LZ.out.ar HZ.out)
  obtain ⟨x, y, rfl, ho⟩ := api_two ho BZ.out
  have HO := hide ho
  clear ho
  refine hK1.out _ _ (fun _ => pin_mem HZ4.out) ?_
  clear hK1
  refine wpT_take ?_
  repeat (first | go_big_quiet_step ((fail)) | quiet_step ((fail)))
  refine wpQuiet_nil ?_
  refine wpT_done ?_
  go_wp2_with fail
  go_ret2
  exact HO.out
set_option maxHeartbeats 4000000 in
set_option maxRecDepth 100000 in
theorem call6_bad (h : PlM D B w pp k s n ms ns Vn ts vs Vt Hs Vh) (P : Pl s n ms q Fs ns ts Hs) (L : Live w k s) (hq : q ≤ 60) (X : ActM B w xf xg xh xi A1 c1 l1 A2 c2 l2 A3 c3 l3) (hbad : xf < 0 ∨ xi < 0 ∨ (n : Int) ≤ xi) :
    Calls Tryz.prog 28 #[.pointer (some ⟨pp, 0, none⟩), .agg (actC 6 xf xg xh xi xb A1 l1.length c1 A2 l2.length c2 A3 l3.length c3)] w (BadOut w) := by
  have hbx := bel_one w (.cells #[.int .u8 6, .int .i64 xf, .int .i64 xg, .int .i64 xh, .int .i64 xi, .bool xb, .slice A1 l1.length c1, .slice A2 l2.length c2, .slice A3 l3.length c3] 39)
  have HP1 := hide (h.below hbx)
  have hx0 := heap_new w (.cells #[.int .u8 6, .int .i64 xf, .int .i64 xg, .int .i64 xh, .int .i64 xi, .bool xb, .slice A1 l1.length c1, .slice A2 l2.length c2, .slice A3 l3.length c3] 39)
  have HX1 := hide hx0
  have HL1 := hide (L.below hbx)
  have HX2 := hide (X.below hbx)
  have HB1 := hide hbx
  have HN := hide (fun (v : Int) (hv : I64 v) (z : World) (hz : PlM D B z pp k s n ms ns Vn ts vs Vt Hs Vh) => node_any hz P.two (by have := P.sm; omega) v hv)
  have HPL := hide P
  have HI := hide (And.intro X.f (And.intro X.g (And.intro X.h X.i)))
  have HCL : Hid (∀ z, Live z k s → ActM B z xf xg xh xi A1 c1 l1 A2 c2 l2 A3 c3 l3 → Calls Tryz.prog 60 #[.pointer (some ⟨k.p, 0, none⟩), .int .i64 (nodeP ns xf), .int .i64 xi, .bool xb] z (BadOut z)) := hide (fun z LZ XZ => by
    by_cases hx : xf < 0
    · exact Restrict_bad k s _ xi xb z LZ.ar (HPL.out.node64 LZ hq xf) (HPL.out.gv_neg hx (by simp))
    · exact Restrict_unk k s _ xi xb z LZ.ar (HPL.out.node64 LZ hq xf) (HPL.out.gv_pos (by omega)) (by
        rw [HPL.out.vs]
        unfold knownB
        have : outB n xi = true := by unfold outB; simp only [Bool.or_eq_true, decide_eq_true_eq]; omega
        simp [this]))
  clear h X L hbx hx0 P hbad
  go_enter Tryz.func28, Tryz.ntmps28
  go_upto_region 1 with fail
  generalize w.alloc (.cells #[.int .u8 6, .int .i64 xf, .int .i64 xg, .int .i64 xh, .int .i64 xi, .bool xb, .slice A1 l1.length c1, .slice A2 l2.length c2, .slice A3 l3.length c3] 39) = w1 at *
  have b1 := lat_cell (cell_heap (j := 1) HX1.out rfl)
  have b2 := lat_cell (cell_heap (j := 2) HX1.out rfl)
  have b3 := lat_cell (cell_heap (j := 3) HX1.out rfl)
  have HF := hide (fun z => HN.out xf HI.out.1 (lat w1 z) (HP1.out.below (lat_below w1 z)))
  have HG := hide (fun z => HN.out xg HI.out.2.1 (lat w1 z) (HP1.out.below (lat_below w1 z)))
  have HH := hide (fun z => HN.out xh HI.out.2.2.1 (lat w1 z) (HP1.out.below (lat_below w1 z)))
  clear HN HI
  generalize nodeP ns xf = yf at *
  generalize nodeP ns xg = yg at *
  generalize nodeP ns xh = yh at *
  go_wp2_with fail
  refine wp_region_lat (by kernel_rfl) (by kernel_rfl) ?_
  repeat (first | go_big_quiet_step ((first | (go_at_call 14; with_reducible exact calls_lat (HF.out _)) | (go_at_call 14; with_reducible exact calls_lat (HG.out _)) | (go_at_call 14; with_reducible exact calls_lat (HH.out _)))) | quiet_step ((first | (go_at_call 14; with_reducible exact calls_lat (HF.out _)) | (go_at_call 14; with_reducible exact calls_lat (HG.out _)) | (go_at_call 14; with_reducible exact calls_lat (HH.out _)))))
  refine wpQuiet_nil ?_
  intro _ hlat
  obtain ⟨wq, rfl⟩ := hlat
  have HP2 := hide (HP1.out.below (lat_below w1 wq))
  have hx2 := heapB (lat_below w1 wq) HX1.out
  have HL2 := hide (HL1.out.below (lat_below w1 wq))
  have HX3 := hide (HX2.out.below (lat_below w1 wq))
  have HB2 := hide (below_wide HB1.out (lat_below w1 wq))
  clear HP1 HX1 HL1 HX2 HB1 b1 b2 b3 HF HG HH
  generalize lat w1 wq = w2 at *
  have hd := cell_heap (j := 0) hx2 rfl
  have hc := HP2.out.cell (j := 0) rfl
  have hc1 := lat_cell hc
  have g4 := lat_cell (cell_heap (j := 4) hx2 rfl)
  have g5 := lat_cell (cell_heap (j := 5) hx2 rfl)
  clear hx2
  have HCQ := hide (fun z => HCL.out (lat w2 z) (HL2.out.below (lat_below w2 z)) (HX3.out.below (lat_below w2 z)))
  go_wp2_with fail
  refine wp_region_lat (by kernel_rfl) (by kernel_rfl) ?_
  repeat (first | go_big_quiet_step ((go_at_call 60; with_reducible exact calls_lat (HCQ.out _))) | quiet_step ((go_at_call 60; with_reducible exact calls_lat (HCQ.out _))))
  refine wpQuiet_nil ?_
  intro _ hlat
  obtain ⟨wp, rfl⟩ := hlat
  clear hd hc
  go_wp2_with fail
  go_ret2
  exact ⟨rfl, below_wide HB2.out (lat_below _ _)⟩
set_option maxHeartbeats 4000000 in
set_option maxRecDepth 100000 in
theorem call7_good (h : PlM D B w pp k s n ms ns Vn ts vs Vt Hs Vh) (P : Pl s n ms q Fs ns ts Hs) (L : Live w k s) (hq : q ≤ 60) (X : ActM B w xf xg xh xi A1 c1 l1 A2 c2 l2 A3 c3 l3) (m1 : List Nat) (hl1 : l1 = encL m1) (hm1 : ∀ x ∈ m1, x < n) (af : Nat) (F : Env → Bool) (ef : nodeP ns xf = (af : Int)) (nf : Nod s af (lowV n) F) :
    Calls Tryz.prog 28 #[.pointer (some ⟨pp, 0, none⟩), .agg (actC 7 xf xg xh xi xb A1 l1.length c1 A2 l2.length c2 A3 l3.length c3)] w (ApiOut k s w 1538 (OkSem (lowV n) (overT (jn false) (fun y => decide (y ∈ m1)) F))) := by
  have Hq1 := hide hl1
  clear hl1
  have hbx := bel_one w (.cells #[.int .u8 7, .int .i64 xf, .int .i64 xg, .int .i64 xh, .int .i64 xi, .bool xb, .slice A1 l1.length c1, .slice A2 l2.length c2, .slice A3 l3.length c3] 39)
  have HP1 := hide (h.below hbx)
  have hx0 := heap_new w (.cells #[.int .u8 7, .int .i64 xf, .int .i64 xg, .int .i64 xh, .int .i64 xi, .bool xb, .slice A1 l1.length c1, .slice A2 l2.length c2, .slice A3 l3.length c3] 39)
  have HX1 := hide hx0
  have HL1 := hide (L.below hbx)
  have HX2 := hide (X.below hbx)
  have HB1 := hide hbx
  have HN := hide (fun (v : Int) (hv : I64 v) (z : World) (hz : PlM D B z pp k s n ms ns Vn ts vs Vt Hs Vh) => node_any hz P.two (by have := P.sm; omega) v hv)
  have HPL := hide P
  have HI := hide (And.intro X.f (And.intro X.g (And.intro X.h X.i)))
  clear h X L hbx hx0 P
  go_enter Tryz.func28, Tryz.ntmps28
  go_upto_region 1 with fail
  generalize w.alloc (.cells #[.int .u8 7, .int .i64 xf, .int .i64 xg, .int .i64 xh, .int .i64 xi, .bool xb, .slice A1 l1.length c1, .slice A2 l2.length c2, .slice A3 l3.length c3] 39) = w1 at *
  have b1 := lat_cell (cell_heap (j := 1) HX1.out rfl)
  have b2 := lat_cell (cell_heap (j := 2) HX1.out rfl)
  have b3 := lat_cell (cell_heap (j := 3) HX1.out rfl)
  have HF := hide (fun z => HN.out xf HI.out.1 (lat w1 z) (HP1.out.below (lat_below w1 z)))
  have HG := hide (fun z => HN.out xg HI.out.2.1 (lat w1 z) (HP1.out.below (lat_below w1 z)))
  have HH := hide (fun z => HN.out xh HI.out.2.2.1 (lat w1 z) (HP1.out.below (lat_below w1 z)))
  rw [ef] at HF
  clear HN HI
  go_wp2_with fail
  refine wp_region_lat (by kernel_rfl) (by kernel_rfl) ?_
  repeat (first | go_big_quiet_step ((first | (go_at_call 14; with_reducible exact calls_lat (HF.out _)) | (go_at_call 14; with_reducible exact calls_lat (HG.out _)) | (go_at_call 14; with_reducible exact calls_lat (HH.out _)))) | quiet_step ((first | (go_at_call 14; with_reducible exact calls_lat (HF.out _)) | (go_at_call 14; with_reducible exact calls_lat (HG.out _)) | (go_at_call 14; with_reducible exact calls_lat (HH.out _)))))
  refine wpQuiet_nil ?_
  intro _ hlat
  obtain ⟨wq, rfl⟩ := hlat
  have HP2 := hide (HP1.out.below (lat_below w1 wq))
  have hx2 := heapB (lat_below w1 wq) HX1.out
  have HL2 := hide (HL1.out.below (lat_below w1 wq))
  have HX3 := hide (HX2.out.below (lat_below w1 wq))
  have HB2 := hide (below_wide HB1.out (lat_below w1 wq))
  clear HP1 HX1 HL1 HX2 HB1 b1 b2 b3 HF HG HH
  generalize lat w1 wq = w2 at *
  obtain ⟨Cp, hCp⟩ : ∃ Cp : Array Value, Cp = #[Value.pointer (some ⟨k.p, 0, none⟩), .int .i64 n, .int .i64 ms, Vn, Vt, Vh] := ⟨_, rfl⟩
  obtain ⟨Cx, hCx⟩ : ∃ Cx : Array Value, Cx = actC 7 xf xg xh xi xb A1 l1.length c1 A2 l2.length c2 A3 l3.length c3 := ⟨_, rfl⟩
  have HZ := hide (show PX pp w.heap.size Cp Cx w2.drew from by subst hCp hCx; exact ⟨(HP2.out.below (Below.refl _ _).drew).h, heapB (Below.refl _ _).drew hx2⟩)
  have HPZ := hide (HP2.out.below (Below.refl _ _).drew)
  have LZ := hide (HL2.out.below (Below.refl _ _).drew)
  have XZ := hide (HX3.out.below (Below.refl _ _).drew)
  have BZ := hide (show Below w.heap.size w w2.drew from HB2.out.drew)
  have hd := cell_heap (j := 0) hx2 rfl
  have gp := fun z => cell_heap (j := 0) (pin_in HZ.out z).1 (show Cp[0]? = some (.pointer (some ⟨k.p, 0, none⟩)) from by rw [hCp]; rfl)
  have g6 := fun z => cell_heap (j := 6) (pin_in HZ.out z).2 (show Cx[6]? = some (.slice A1 l1.length c1) from by rw [hCx]; rfl)
  have hlm1 : l1.length = m1.length := by rw [Hq1.out, encL_len]
  rw [hlm1] at g6
  clear hlm1
  clear hx2 HP2 HL2 HX3 HB2 hCp hCx
  go_wp2_with fail
  refine wp_region_tree (PX pp w.heap.size Cp Cx) (fun k => ([] : List Nat).contains k) (.take [0, 1, 2, 3, 4, 5, 6] (.step 7 (.take [8, 9, 10, 11] .done))) (by kernel_rfl) (by kernel_rfl) (by kernel_rfl) (by kernel_rfl) (.take (.cons (.zero) (.cons (.succ (.zero)) (.cons (.succ (.succ (.zero))) (.cons (.succ (.succ (.succ (.zero)))) (.cons (.succ (.succ (.succ (.succ (.zero))))) (.cons (.succ (.succ (.succ (.succ (.succ (.zero)))))) (.cons (.succ (.succ (.succ (.succ (.succ (.succ (.zero))))))) .nil))))))) (.step (.succ (.succ (.succ (.succ (.succ (.succ (.succ (.zero)))))))) rfl (.take (.cons (.succ (.succ (.succ (.succ (.succ (.succ (.succ (.succ (.zero))))))))) (.cons (.succ (.succ (.succ (.succ (.succ (.succ (.succ (.succ (.succ (.zero)))))))))) (.cons (.succ (.succ (.succ (.succ (.succ (.succ (.succ (.succ (.succ (.succ (.zero))))))))))) (.cons (.succ (.succ (.succ (.succ (.succ (.succ (.succ (.succ (.succ (.succ (.succ (.zero)))))))))))) .nil)))) .done))) ?hQ ?hS ?_
  case hQ => exact fun _ _ _ _ _ h => h
  case hS => exact HZ.out
  refine wpT_take ?_
  repeat (first | go_big_quiet_step ((fail)) | quiet_step ((fail)))
  refine wpQuiet_nil ?_
  clear hd
  generalize w2.drew = w3 at *
  refine wpT_step rfl ?_
  intro K1 hK1
  go_wp2_with fail
  with_reducible refine (Exists_p HPL.out LZ.out hq nf A1 c1 m1 (by have := XZ.out.s1; rw [Hq1.out, encL_len] at this; exact this) (by have := XZ.out.n1; rw [Hq1.out, encL_len] at this; exact len_max this) hm1).mono ?_
  intro e w4 ho
  have HZ4 := hide (api_keep ho LZ.out.ar HZ.out)
  obtain ⟨x, y, rfl, ho⟩ := api_two ho BZ.out
  have HO := hide ho
  clear ho
  refine hK1.out _ _ (fun _ => pin_mem HZ4.out) ?_
  clear hK1
  refine wpT_take ?_
  repeat (first | go_big_quiet_step ((fail)) | quiet_step ((fail)))
  refine wpQuiet_nil ?_
  refine wpT_done ?_
  go_wp2_with fail
  go_ret2
  exact HO.out
set_option maxHeartbeats 4000000 in
set_option maxRecDepth 100000 in
theorem call7_bad (h : PlM D B w pp k s n ms ns Vn ts vs Vt Hs Vh) (P : Pl s n ms q Fs ns ts Hs) (L : Live w k s) (hq : q ≤ 60) (X : ActM B w xf xg xh xi A1 c1 l1 A2 c2 l2 A3 c3 l3) (hbad : xf < 0 ∨ knownB n l1 = false) :
    Calls Tryz.prog 28 #[.pointer (some ⟨pp, 0, none⟩), .agg (actC 7 xf xg xh xi xb A1 l1.length c1 A2 l2.length c2 A3 l3.length c3)] w (BadOut w) := by
  have hbx := bel_one w (.cells #[.int .u8 7, .int .i64 xf, .int .i64 xg, .int .i64 xh, .int .i64 xi, .bool xb, .slice A1 l1.length c1, .slice A2 l2.length c2, .slice A3 l3.length c3] 39)
  have HP1 := hide (h.below hbx)
  have hx0 := heap_new w (.cells #[.int .u8 7, .int .i64 xf, .int .i64 xg, .int .i64 xh, .int .i64 xi, .bool xb, .slice A1 l1.length c1, .slice A2 l2.length c2, .slice A3 l3.length c3] 39)
  have HX1 := hide hx0
  have HL1 := hide (L.below hbx)
  have HX2 := hide (X.below hbx)
  have HB1 := hide hbx
  have HN := hide (fun (v : Int) (hv : I64 v) (z : World) (hz : PlM D B z pp k s n ms ns Vn ts vs Vt Hs Vh) => node_any hz P.two (by have := P.sm; omega) v hv)
  have HPL := hide P
  have HI := hide (And.intro X.f (And.intro X.g (And.intro X.h X.i)))
  have HCL : Hid (∀ z, Live z k s → ActM B z xf xg xh xi A1 c1 l1 A2 c2 l2 A3 c3 l3 → Calls Tryz.prog 61 #[.pointer (some ⟨k.p, 0, none⟩), .int .i64 (nodeP ns xf), .slice A1 l1.length c1] z (BadOut z)) := hide (fun z LZ XZ => by
    exact Exists_err k s _ A1 c1 l1 z LZ.ar (HPL.out.node64 LZ hq xf) XZ.s1 (len_max XZ.n1) (by
      by_cases hx : xf < 0
      · exact .inl (HPL.out.gv_neg hx (by simp))
      · exact .inr ⟨HPL.out.gv_pos (by omega), by rw [HPL.out.vs]; exact hbad.resolve_left hx⟩))
  clear h X L hbx hx0 P hbad
  go_enter Tryz.func28, Tryz.ntmps28
  go_upto_region 1 with fail
  generalize w.alloc (.cells #[.int .u8 7, .int .i64 xf, .int .i64 xg, .int .i64 xh, .int .i64 xi, .bool xb, .slice A1 l1.length c1, .slice A2 l2.length c2, .slice A3 l3.length c3] 39) = w1 at *
  have b1 := lat_cell (cell_heap (j := 1) HX1.out rfl)
  have b2 := lat_cell (cell_heap (j := 2) HX1.out rfl)
  have b3 := lat_cell (cell_heap (j := 3) HX1.out rfl)
  have HF := hide (fun z => HN.out xf HI.out.1 (lat w1 z) (HP1.out.below (lat_below w1 z)))
  have HG := hide (fun z => HN.out xg HI.out.2.1 (lat w1 z) (HP1.out.below (lat_below w1 z)))
  have HH := hide (fun z => HN.out xh HI.out.2.2.1 (lat w1 z) (HP1.out.below (lat_below w1 z)))
  clear HN HI
  generalize nodeP ns xf = yf at *
  generalize nodeP ns xg = yg at *
  generalize nodeP ns xh = yh at *
  go_wp2_with fail
  refine wp_region_lat (by kernel_rfl) (by kernel_rfl) ?_
  repeat (first | go_big_quiet_step ((first | (go_at_call 14; with_reducible exact calls_lat (HF.out _)) | (go_at_call 14; with_reducible exact calls_lat (HG.out _)) | (go_at_call 14; with_reducible exact calls_lat (HH.out _)))) | quiet_step ((first | (go_at_call 14; with_reducible exact calls_lat (HF.out _)) | (go_at_call 14; with_reducible exact calls_lat (HG.out _)) | (go_at_call 14; with_reducible exact calls_lat (HH.out _)))))
  refine wpQuiet_nil ?_
  intro _ hlat
  obtain ⟨wq, rfl⟩ := hlat
  have HP2 := hide (HP1.out.below (lat_below w1 wq))
  have hx2 := heapB (lat_below w1 wq) HX1.out
  have HL2 := hide (HL1.out.below (lat_below w1 wq))
  have HX3 := hide (HX2.out.below (lat_below w1 wq))
  have HB2 := hide (below_wide HB1.out (lat_below w1 wq))
  clear HP1 HX1 HL1 HX2 HB1 b1 b2 b3 HF HG HH
  generalize lat w1 wq = w2 at *
  have hd := cell_heap (j := 0) hx2 rfl
  have hc := HP2.out.cell (j := 0) rfl
  have hc1 := lat_cell hc
  have g6 := lat_cell (cell_heap (j := 6) hx2 rfl)
  clear hx2
  have HCQ := hide (fun z => HCL.out (lat w2 z) (HL2.out.below (lat_below w2 z)) (HX3.out.below (lat_below w2 z)))
  go_wp2_with fail
  refine wp_region_lat (by kernel_rfl) (by kernel_rfl) ?_
  repeat (first | go_big_quiet_step ((go_at_call 61; with_reducible exact calls_lat (HCQ.out _))) | quiet_step ((go_at_call 61; with_reducible exact calls_lat (HCQ.out _))))
  refine wpQuiet_nil ?_
  intro _ hlat
  obtain ⟨wp, rfl⟩ := hlat
  clear hd hc
  go_wp2_with fail
  go_ret2
  exact ⟨rfl, below_wide HB2.out (lat_below _ _)⟩
set_option maxHeartbeats 4000000 in
set_option maxRecDepth 100000 in
theorem call8_good (h : PlM D B w pp k s n ms ns Vn ts vs Vt Hs Vh) (P : Pl s n ms q Fs ns ts Hs) (L : Live w k s) (hq : q ≤ 60) (X : ActM B w xf xg xh xi A1 c1 l1 A2 c2 l2 A3 c3 l3) (m1 : List Nat) (hl1 : l1 = encL m1) (hm1 : ∀ x ∈ m1, x < n) (af : Nat) (F : Env → Bool) (ef : nodeP ns xf = (af : Int)) (nf : Nod s af (lowV n) F) :
    Calls Tryz.prog 28 #[.pointer (some ⟨pp, 0, none⟩), .agg (actC 8 xf xg xh xi xb A1 l1.length c1 A2 l2.length c2 A3 l3.length c3)] w (ApiOut k s w 1538 (OkSem (lowV n) (overT (jn true) (fun y => decide (y ∈ m1)) F))) := by
  have Hq1 := hide hl1
  clear hl1
  have hbx := bel_one w (.cells #[.int .u8 8, .int .i64 xf, .int .i64 xg, .int .i64 xh, .int .i64 xi, .bool xb, .slice A1 l1.length c1, .slice A2 l2.length c2, .slice A3 l3.length c3] 39)
  have HP1 := hide (h.below hbx)
  have hx0 := heap_new w (.cells #[.int .u8 8, .int .i64 xf, .int .i64 xg, .int .i64 xh, .int .i64 xi, .bool xb, .slice A1 l1.length c1, .slice A2 l2.length c2, .slice A3 l3.length c3] 39)
  have HX1 := hide hx0
  have HL1 := hide (L.below hbx)
  have HX2 := hide (X.below hbx)
  have HB1 := hide hbx
  have HN := hide (fun (v : Int) (hv : I64 v) (z : World) (hz : PlM D B z pp k s n ms ns Vn ts vs Vt Hs Vh) => node_any hz P.two (by have := P.sm; omega) v hv)
  have HPL := hide P
  have HI := hide (And.intro X.f (And.intro X.g (And.intro X.h X.i)))
  clear h X L hbx hx0 P
  go_enter Tryz.func28, Tryz.ntmps28
  go_upto_region 1 with fail
  generalize w.alloc (.cells #[.int .u8 8, .int .i64 xf, .int .i64 xg, .int .i64 xh, .int .i64 xi, .bool xb, .slice A1 l1.length c1, .slice A2 l2.length c2, .slice A3 l3.length c3] 39) = w1 at *
  have b1 := lat_cell (cell_heap (j := 1) HX1.out rfl)
  have b2 := lat_cell (cell_heap (j := 2) HX1.out rfl)
  have b3 := lat_cell (cell_heap (j := 3) HX1.out rfl)
  have HF := hide (fun z => HN.out xf HI.out.1 (lat w1 z) (HP1.out.below (lat_below w1 z)))
  have HG := hide (fun z => HN.out xg HI.out.2.1 (lat w1 z) (HP1.out.below (lat_below w1 z)))
  have HH := hide (fun z => HN.out xh HI.out.2.2.1 (lat w1 z) (HP1.out.below (lat_below w1 z)))
  rw [ef] at HF
  clear HN HI
  go_wp2_with fail
  refine wp_region_lat (by kernel_rfl) (by kernel_rfl) ?_
  repeat (first | go_big_quiet_step ((first | (go_at_call 14; with_reducible exact calls_lat (HF.out _)) | (go_at_call 14; with_reducible exact calls_lat (HG.out _)) | (go_at_call 14; with_reducible exact calls_lat (HH.out _)))) | quiet_step ((first | (go_at_call 14; with_reducible exact calls_lat (HF.out _)) | (go_at_call 14; with_reducible exact calls_lat (HG.out _)) | (go_at_call 14; with_reducible exact calls_lat (HH.out _)))))
  refine wpQuiet_nil ?_
  intro _ hlat
  obtain ⟨wq, rfl⟩ := hlat
  have HP2 := hide (HP1.out.below (lat_below w1 wq))
  have hx2 := heapB (lat_below w1 wq) HX1.out
  have HL2 := hide (HL1.out.below (lat_below w1 wq))
  have HX3 := hide (HX2.out.below (lat_below w1 wq))
  have HB2 := hide (below_wide HB1.out (lat_below w1 wq))
  clear HP1 HX1 HL1 HX2 HB1 b1 b2 b3 HF HG HH
  generalize lat w1 wq = w2 at *
  obtain ⟨Cp, hCp⟩ : ∃ Cp : Array Value, Cp = #[Value.pointer (some ⟨k.p, 0, none⟩), .int .i64 n, .int .i64 ms, Vn, Vt, Vh] := ⟨_, rfl⟩
  obtain ⟨Cx, hCx⟩ : ∃ Cx : Array Value, Cx = actC 8 xf xg xh xi xb A1 l1.length c1 A2 l2.length c2 A3 l3.length c3 := ⟨_, rfl⟩
  have HZ := hide (show PX pp w.heap.size Cp Cx w2.drew from by subst hCp hCx; exact ⟨(HP2.out.below (Below.refl _ _).drew).h, heapB (Below.refl _ _).drew hx2⟩)
  have HPZ := hide (HP2.out.below (Below.refl _ _).drew)
  have LZ := hide (HL2.out.below (Below.refl _ _).drew)
  have XZ := hide (HX3.out.below (Below.refl _ _).drew)
  have BZ := hide (show Below w.heap.size w w2.drew from HB2.out.drew)
  have hd := cell_heap (j := 0) hx2 rfl
  have gp := fun z => cell_heap (j := 0) (pin_in HZ.out z).1 (show Cp[0]? = some (.pointer (some ⟨k.p, 0, none⟩)) from by rw [hCp]; rfl)
  have g6 := fun z => cell_heap (j := 6) (pin_in HZ.out z).2 (show Cx[6]? = some (.slice A1 l1.length c1) from by rw [hCx]; rfl)
  have hlm1 : l1.length = m1.length := by rw [Hq1.out, encL_len]
  rw [hlm1] at g6
  clear hlm1
  clear hx2 HP2 HL2 HX3 HB2 hCp hCx
  go_wp2_with fail
  refine wp_region_tree (PX pp w.heap.size Cp Cx) (fun k => ([] : List Nat).contains k) (.take [0, 1, 2, 3, 4, 5, 6] (.step 7 (.take [8, 9, 10, 11] .done))) (by kernel_rfl) (by kernel_rfl) (by kernel_rfl) (by kernel_rfl) (.take (.cons (.zero) (.cons (.succ (.zero)) (.cons (.succ (.succ (.zero))) (.cons (.succ (.succ (.succ (.zero)))) (.cons (.succ (.succ (.succ (.succ (.zero))))) (.cons (.succ (.succ (.succ (.succ (.succ (.zero)))))) (.cons (.succ (.succ (.succ (.succ (.succ (.succ (.zero))))))) .nil))))))) (.step (.succ (.succ (.succ (.succ (.succ (.succ (.succ (.zero)))))))) rfl (.take (.cons (.succ (.succ (.succ (.succ (.succ (.succ (.succ (.succ (.zero))))))))) (.cons (.succ (.succ (.succ (.succ (.succ (.succ (.succ (.succ (.succ (.zero)))))))))) (.cons (.succ (.succ (.succ (.succ (.succ (.succ (.succ (.succ (.succ (.succ (.zero))))))))))) (.cons (.succ (.succ (.succ (.succ (.succ (.succ (.succ (.succ (.succ (.succ (.succ (.zero)))))))))))) .nil)))) .done))) ?hQ ?hS ?_
  case hQ => exact fun _ _ _ _ _ h => h
  case hS => exact HZ.out
  refine wpT_take ?_
  repeat (first | go_big_quiet_step ((fail)) | quiet_step ((fail)))
  refine wpQuiet_nil ?_
  clear hd
  generalize w2.drew = w3 at *
  refine wpT_step rfl ?_
  intro K1 hK1
  go_wp2_with fail
  with_reducible refine (Forall_p HPL.out LZ.out hq nf A1 c1 m1 (by have := XZ.out.s1; rw [Hq1.out, encL_len] at this; exact this) (by have := XZ.out.n1; rw [Hq1.out, encL_len] at this; exact len_max this) hm1).mono ?_
  intro e w4 ho
  have HZ4 := hide (api_keep ho LZ.out.ar HZ.out)
  obtain ⟨x, y, rfl, ho⟩ := api_two ho BZ.out
  have HO := hide ho
  clear ho
  refine hK1.out _ _ (fun _ => pin_mem HZ4.out) ?_
  clear hK1
  refine wpT_take ?_
  repeat (first | go_big_quiet_step ((fail)) | quiet_step ((fail)))
  refine wpQuiet_nil ?_
  refine wpT_done ?_
  go_wp2_with fail
  go_ret2
  exact HO.out
set_option maxHeartbeats 4000000 in
set_option maxRecDepth 100000 in
theorem call8_bad (h : PlM D B w pp k s n ms ns Vn ts vs Vt Hs Vh) (P : Pl s n ms q Fs ns ts Hs) (L : Live w k s) (hq : q ≤ 60) (X : ActM B w xf xg xh xi A1 c1 l1 A2 c2 l2 A3 c3 l3) (hbad : xf < 0 ∨ knownB n l1 = false) :
    Calls Tryz.prog 28 #[.pointer (some ⟨pp, 0, none⟩), .agg (actC 8 xf xg xh xi xb A1 l1.length c1 A2 l2.length c2 A3 l3.length c3)] w (BadOut w) := by
  have hbx := bel_one w (.cells #[.int .u8 8, .int .i64 xf, .int .i64 xg, .int .i64 xh, .int .i64 xi, .bool xb, .slice A1 l1.length c1, .slice A2 l2.length c2, .slice A3 l3.length c3] 39)
  have HP1 := hide (h.below hbx)
  have hx0 := heap_new w (.cells #[.int .u8 8, .int .i64 xf, .int .i64 xg, .int .i64 xh, .int .i64 xi, .bool xb, .slice A1 l1.length c1, .slice A2 l2.length c2, .slice A3 l3.length c3] 39)
  have HX1 := hide hx0
  have HL1 := hide (L.below hbx)
  have HX2 := hide (X.below hbx)
  have HB1 := hide hbx
  have HN := hide (fun (v : Int) (hv : I64 v) (z : World) (hz : PlM D B z pp k s n ms ns Vn ts vs Vt Hs Vh) => node_any hz P.two (by have := P.sm; omega) v hv)
  have HPL := hide P
  have HI := hide (And.intro X.f (And.intro X.g (And.intro X.h X.i)))
  have HCL : Hid (∀ z, Live z k s → ActM B z xf xg xh xi A1 c1 l1 A2 c2 l2 A3 c3 l3 → Calls Tryz.prog 62 #[.pointer (some ⟨k.p, 0, none⟩), .int .i64 (nodeP ns xf), .slice A1 l1.length c1] z (BadOut z)) := hide (fun z LZ XZ => by
    exact Forall_err k s _ A1 c1 l1 z LZ.ar (HPL.out.node64 LZ hq xf) XZ.s1 (len_max XZ.n1) (by
      by_cases hx : xf < 0
      · exact .inl (HPL.out.gv_neg hx (by simp))
      · exact .inr ⟨HPL.out.gv_pos (by omega), by rw [HPL.out.vs]; exact hbad.resolve_left hx⟩))
  clear h X L hbx hx0 P hbad
  go_enter Tryz.func28, Tryz.ntmps28
  go_upto_region 1 with fail
  generalize w.alloc (.cells #[.int .u8 8, .int .i64 xf, .int .i64 xg, .int .i64 xh, .int .i64 xi, .bool xb, .slice A1 l1.length c1, .slice A2 l2.length c2, .slice A3 l3.length c3] 39) = w1 at *
  have b1 := lat_cell (cell_heap (j := 1) HX1.out rfl)
  have b2 := lat_cell (cell_heap (j := 2) HX1.out rfl)
  have b3 := lat_cell (cell_heap (j := 3) HX1.out rfl)
  have HF := hide (fun z => HN.out xf HI.out.1 (lat w1 z) (HP1.out.below (lat_below w1 z)))
  have HG := hide (fun z => HN.out xg HI.out.2.1 (lat w1 z) (HP1.out.below (lat_below w1 z)))
  have HH := hide (fun z => HN.out xh HI.out.2.2.1 (lat w1 z) (HP1.out.below (lat_below w1 z)))
  clear HN HI
  generalize nodeP ns xf = yf at *
  generalize nodeP ns xg = yg at *
  generalize nodeP ns xh = yh at *
  go_wp2_with fail
  refine wp_region_lat (by kernel_rfl) (by kernel_rfl) ?_
  repeat (first | go_big_quiet_step ((first | (go_at_call 14; with_reducible exact calls_lat (HF.out _)) | (go_at_call 14; with_reducible exact calls_lat (HG.out _)) | (go_at_call 14; with_reducible exact calls_lat (HH.out _)))) | quiet_step ((first | (go_at_call 14; with_reducible exact calls_lat (HF.out _)) | (go_at_call 14; with_reducible exact calls_lat (HG.out _)) | (go_at_call 14; with_reducible exact calls_lat (HH.out _)))))
  refine wpQuiet_nil ?_
  intro _ hlat
  obtain ⟨wq, rfl⟩ := hlat
  have HP2 := hide (HP1.out.below (lat_below w1 wq))
  have hx2 := heapB (lat_below w1 wq) HX1.out
  have HL2 := hide (HL1.out.below (lat_below w1 wq))
  have HX3 := hide (HX2.out.below (lat_below w1 wq))
  have HB2 := hide (below_wide HB1.out (lat_below w1 wq))
  clear HP1 HX1 HL1 HX2 HB1 b1 b2 b3 HF HG HH
  generalize lat w1 wq = w2 at *
  have hd := cell_heap (j := 0) hx2 rfl
  have hc := HP2.out.cell (j := 0) rfl
  have hc1 := lat_cell hc
  have g6 := lat_cell (cell_heap (j := 6) hx2 rfl)
  clear hx2
  have HCQ := hide (fun z => HCL.out (lat w2 z) (HL2.out.below (lat_below w2 z)) (HX3.out.below (lat_below w2 z)))
  go_wp2_with fail
  refine wp_region_lat (by kernel_rfl) (by kernel_rfl) ?_
  repeat (first | go_big_quiet_step ((go_at_call 62; with_reducible exact calls_lat (HCQ.out _))) | quiet_step ((go_at_call 62; with_reducible exact calls_lat (HCQ.out _))))
  refine wpQuiet_nil ?_
  intro _ hlat
  obtain ⟨wp, rfl⟩ := hlat
  clear hd hc
  go_wp2_with fail
  go_ret2
  exact ⟨rfl, below_wide HB2.out (lat_below _ _)⟩
set_option maxHeartbeats 4000000 in
set_option maxRecDepth 100000 in
theorem call9_good (h : PlM D B w pp k s n ms ns Vn ts vs Vt Hs Vh) (P : Pl s n ms q Fs ns ts Hs) (L : Live w k s) (hq : q ≤ 60) (X : ActM B w xf xg xh xi A1 c1 l1 A2 c2 l2 A3 c3 l3) (m1 : List Nat) (hl1 : l1 = encL m1) (hm1 : ∀ x ∈ m1, x < n) (m2 : List Nat) (hl2 : l2 = encL m2) (hm2 : ∀ x ∈ m2, x < n) (he : m1.length = m2.length) (hnd : m1.Nodup) (af : Nat) (F : Env → Bool) (ef : nodeP ns xf = (af : Int)) (nf : Nod s af (lowV n) F) :
    Calls Tryz.prog 28 #[.pointer (some ⟨pp, 0, none⟩), .agg (actC 9 xf xg xh xi xb A1 l1.length c1 A2 l2.length c2 A3 l3.length c3)] w (ApiOut k s w 1538 (OkSem (lowV n) (fun ρ => F (renE (m1.zip m2) ρ ρ)))) := by
  have Hq1 := hide hl1
  clear hl1
  have Hq2 := hide hl2
  have Hqe := hide he
  clear hl2 he
  have hbx := bel_one w (.cells #[.int .u8 9, .int .i64 xf, .int .i64 xg, .int .i64 xh, .int .i64 xi, .bool xb, .slice A1 l1.length c1, .slice A2 l2.length c2, .slice A3 l3.length c3] 39)
  have HP1 := hide (h.below hbx)
  have hx0 := heap_new w (.cells #[.int .u8 9, .int .i64 xf, .int .i64 xg, .int .i64 xh, .int .i64 xi, .bool xb, .slice A1 l1.length c1, .slice A2 l2.length c2, .slice A3 l3.length c3] 39)
  have HX1 := hide hx0
  have HL1 := hide (L.below hbx)
  have HX2 := hide (X.below hbx)
  have HB1 := hide hbx
  have HN := hide (fun (v : Int) (hv : I64 v) (z : World) (hz : PlM D B z pp k s n ms ns Vn ts vs Vt Hs Vh) => node_any hz P.two (by have := P.sm; omega) v hv)
  have HPL := hide P
  have HI := hide (And.intro X.f (And.intro X.g (And.intro X.h X.i)))
  clear h X L hbx hx0 P
  go_enter Tryz.func28, Tryz.ntmps28
  go_upto_region 1 with fail
  generalize w.alloc (.cells #[.int .u8 9, .int .i64 xf, .int .i64 xg, .int .i64 xh, .int .i64 xi, .bool xb, .slice A1 l1.length c1, .slice A2 l2.length c2, .slice A3 l3.length c3] 39) = w1 at *
  have b1 := lat_cell (cell_heap (j := 1) HX1.out rfl)
  have b2 := lat_cell (cell_heap (j := 2) HX1.out rfl)
  have b3 := lat_cell (cell_heap (j := 3) HX1.out rfl)
  have HF := hide (fun z => HN.out xf HI.out.1 (lat w1 z) (HP1.out.below (lat_below w1 z)))
  have HG := hide (fun z => HN.out xg HI.out.2.1 (lat w1 z) (HP1.out.below (lat_below w1 z)))
  have HH := hide (fun z => HN.out xh HI.out.2.2.1 (lat w1 z) (HP1.out.below (lat_below w1 z)))
  rw [ef] at HF
  clear HN HI
  go_wp2_with fail
  refine wp_region_lat (by kernel_rfl) (by kernel_rfl) ?_
  repeat (first | go_big_quiet_step ((first | (go_at_call 14; with_reducible exact calls_lat (HF.out _)) | (go_at_call 14; with_reducible exact calls_lat (HG.out _)) | (go_at_call 14; with_reducible exact calls_lat (HH.out _)))) | quiet_step ((first | (go_at_call 14; with_reducible exact calls_lat (HF.out _)) | (go_at_call 14; with_reducible exact calls_lat (HG.out _)) | (go_at_call 14; with_reducible exact calls_lat (HH.out _)))))
  refine wpQuiet_nil ?_
  intro _ hlat
  obtain ⟨wq, rfl⟩ := hlat
  have HP2 := hide (HP1.out.below (lat_below w1 wq))
  have hx2 := heapB (lat_below w1 wq) HX1.out
  have HL2 := hide (HL1.out.below (lat_below w1 wq))
  have HX3 := hide (HX2.out.below (lat_below w1 wq))
  have HB2 := hide (below_wide HB1.out (lat_below w1 wq))
  clear HP1 HX1 HL1 HX2 HB1 b1 b2 b3 HF HG HH
  generalize lat w1 wq = w2 at *
  obtain ⟨Cp, hCp⟩ : ∃ Cp : Array Value, Cp = #[Value.pointer (some ⟨k.p, 0, none⟩), .int .i64 n, .int .i64 ms, Vn, Vt, Vh] := ⟨_, rfl⟩
  obtain ⟨Cx, hCx⟩ : ∃ Cx : Array Value, Cx = actC 9 xf xg xh xi xb A1 l1.length c1 A2 l2.length c2 A3 l3.length c3 := ⟨_, rfl⟩
  have HZ := hide (show PX pp w.heap.size Cp Cx w2.drew from by subst hCp hCx; exact ⟨(HP2.out.below (Below.refl _ _).drew).h, heapB (Below.refl _ _).drew hx2⟩)
  have HPZ := hide (HP2.out.below (Below.refl _ _).drew)
  have LZ := hide (HL2.out.below (Below.refl _ _).drew)
  have XZ := hide (HX3.out.below (Below.refl _ _).drew)
  have BZ := hide (show Below w.heap.size w w2.drew from HB2.out.drew)
  have hd := cell_heap (j := 0) hx2 rfl
  have gp := fun z => cell_heap (j := 0) (pin_in HZ.out z).1 (show Cp[0]? = some (.pointer (some ⟨k.p, 0, none⟩)) from by rw [hCp]; rfl)
  have g6 := fun z => cell_heap (j := 6) (pin_in HZ.out z).2 (show Cx[6]? = some (.slice A1 l1.length c1) from by rw [hCx]; rfl)
  have g7 := fun z => cell_heap (j := 7) (pin_in HZ.out z).2 (show Cx[7]? = some (.slice A2 l2.length c2) from by rw [hCx]; rfl)
  have hlm1 : l1.length = m1.length := by rw [Hq1.out, encL_len]
  have hlm2 : l2.length = m2.length := by rw [Hq2.out, encL_len]
  rw [hlm1] at g6
  clear hlm1
  rw [hlm2] at g7
  clear hlm2
  clear hx2 HP2 HL2 HX3 HB2 hCp hCx
  go_wp2_with fail
  refine wp_region_tree (PX pp w.heap.size Cp Cx) (fun k => ([] : List Nat).contains k) (.take [0, 1, 2, 3, 4, 5, 6, 7, 8] (.step 9 (.take [10, 11, 12, 13] .done))) (by kernel_rfl) (by kernel_rfl) (by kernel_rfl) (by kernel_rfl) (.take (.cons (.zero) (.cons (.succ (.zero)) (.cons (.succ (.succ (.zero))) (.cons (.succ (.succ (.succ (.zero)))) (.cons (.succ (.succ (.succ (.succ (.zero))))) (.cons (.succ (.succ (.succ (.succ (.succ (.zero)))))) (.cons (.succ (.succ (.succ (.succ (.succ (.succ (.zero))))))) (.cons (.succ (.succ (.succ (.succ (.succ (.succ (.succ (.zero)))))))) (.cons (.succ (.succ (.succ (.succ (.succ (.succ (.succ (.succ (.zero))))))))) .nil))))))))) (.step (.succ (.succ (.succ (.succ (.succ (.succ (.succ (.succ (.succ (.zero)))))))))) rfl (.take (.cons (.succ (.succ (.succ (.succ (.succ (.succ (.succ (.succ (.succ (.succ (.zero))))))))))) (.cons (.succ (.succ (.succ (.succ (.succ (.succ (.succ (.succ (.succ (.succ (.succ (.zero)))))))))))) (.cons (.succ (.succ (.succ (.succ (.succ (.succ (.succ (.succ (.succ (.succ (.succ (.succ (.zero))))))))))))) (.cons (.succ (.succ (.succ (.succ (.succ (.succ (.succ (.succ (.succ (.succ (.succ (.succ (.succ (.zero)))))))))))))) .nil)))) .done))) ?hQ ?hS ?_
  case hQ => exact fun _ _ _ _ _ h => h
  case hS => exact HZ.out
  refine wpT_take ?_
  repeat (first | go_big_quiet_step ((fail)) | quiet_step ((fail)))
  refine wpQuiet_nil ?_
  clear hd
  generalize w2.drew = w3 at *
  refine wpT_step rfl ?_
  intro K1 hK1
  go_wp2_with fail
  with_reducible refine (Rename_p HPL.out LZ.out hq nf A1 A2 c1 c2 m1 m2 (by have := XZ.out.s1; rw [Hq1.out, encL_len] at this; exact this) (by have := XZ.out.s2; rw [Hq2.out, encL_len] at this; exact this) Hqe.out hnd hm1 hm2).mono ?_
  intro e w4 ho
  have HZ4 := hide (api_keep ho LZ.out.ar HZ.out)
  obtain ⟨x, y, rfl, ho⟩ := api_two ho BZ.out
  have HO := hide ho
  clear ho
  refine hK1.out _ _ (fun _ => pin_mem HZ4.out) ?_
  clear hK1
  refine wpT_take ?_
  repeat (first | go_big_quiet_step ((fail)) | quiet_step ((fail)))
  refine wpQuiet_nil ?_
  refine wpT_done ?_
  go_wp2_with fail
  go_ret2
  exact HO.out
set_option maxHeartbeats 4000000 in
set_option maxRecDepth 100000 in
theorem call9_bad (h : PlM D B w pp k s n ms ns Vn ts vs Vt Hs Vh) (P : Pl s n ms q Fs ns ts Hs) (L : Live w k s) (hq : q ≤ 60) (X : ActM B w xf xg xh xi A1 c1 l1 A2 c2 l2 A3 c3 l3) (hbad : xf < 0 ∨ l1.length ≠ l2.length ∨ knownB n l1 = false ∨ knownB n l2 = false ∨ ¬ l1.Nodup) :
    Calls Tryz.prog 28 #[.pointer (some ⟨pp, 0, none⟩), .agg (actC 9 xf xg xh xi xb A1 l1.length c1 A2 l2.length c2 A3 l3.length c3)] w (BadOut w) := by
  have hbx := bel_one w (.cells #[.int .u8 9, .int .i64 xf, .int .i64 xg, .int .i64 xh, .int .i64 xi, .bool xb, .slice A1 l1.length c1, .slice A2 l2.length c2, .slice A3 l3.length c3] 39)
  have HP1 := hide (h.below hbx)
  have hx0 := heap_new w (.cells #[.int .u8 9, .int .i64 xf, .int .i64 xg, .int .i64 xh, .int .i64 xi, .bool xb, .slice A1 l1.length c1, .slice A2 l2.length c2, .slice A3 l3.length c3] 39)
  have HX1 := hide hx0
  have HL1 := hide (L.below hbx)
  have HX2 := hide (X.below hbx)
  have HB1 := hide hbx
  have HN := hide (fun (v : Int) (hv : I64 v) (z : World) (hz : PlM D B z pp k s n ms ns Vn ts vs Vt Hs Vh) => node_any hz P.two (by have := P.sm; omega) v hv)
  have HPL := hide P
  have HI := hide (And.intro X.f (And.intro X.g (And.intro X.h X.i)))
  have HCL : Hid (∀ z, Live z k s → ActM B z xf xg xh xi A1 c1 l1 A2 c2 l2 A3 c3 l3 → Calls Tryz.prog 63 #[.pointer (some ⟨k.p, 0, none⟩), .int .i64 (nodeP ns xf), .slice A1 l1.length c1, .slice A2 l2.length c2] z (BadOut z)) := hide (fun z LZ XZ => by
    exact Rename_err HPL.out LZ hq xf A1 A2 c1 c2 l1 l2 XZ.s1 XZ.s2 (len_max XZ.n1) (len_max XZ.n2) hbad)
  clear h X L hbx hx0 P hbad
  go_enter Tryz.func28, Tryz.ntmps28
  go_upto_region 1 with fail
  generalize w.alloc (.cells #[.int .u8 9, .int .i64 xf, .int .i64 xg, .int .i64 xh, .int .i64 xi, .bool xb, .slice A1 l1.length c1, .slice A2 l2.length c2, .slice A3 l3.length c3] 39) = w1 at *
  have b1 := lat_cell (cell_heap (j := 1) HX1.out rfl)
  have b2 := lat_cell (cell_heap (j := 2) HX1.out rfl)
  have b3 := lat_cell (cell_heap (j := 3) HX1.out rfl)
  have HF := hide (fun z => HN.out xf HI.out.1 (lat w1 z) (HP1.out.below (lat_below w1 z)))
  have HG := hide (fun z => HN.out xg HI.out.2.1 (lat w1 z) (HP1.out.below (lat_below w1 z)))
  have HH := hide (fun z => HN.out xh HI.out.2.2.1 (lat w1 z) (HP1.out.below (lat_below w1 z)))
  clear HN HI
  generalize nodeP ns xf = yf at *
  generalize nodeP ns xg = yg at *
  generalize nodeP ns xh = yh at *
  go_wp2_with fail
  refine wp_region_lat (by kernel_rfl) (by kernel_rfl) ?_
  repeat (first | go_big_quiet_step ((first | (go_at_call 14; with_reducible exact calls_lat (HF.out _)) | (go_at_call 14; with_reducible exact calls_lat (HG.out _)) | (go_at_call 14; with_reducible exact calls_lat (HH.out _)))) | quiet_step ((first | (go_at_call 14; with_reducible exact calls_lat (HF.out _)) | (go_at_call 14; with_reducible exact calls_lat (HG.out _)) | (go_at_call 14; with_reducible exact calls_lat (HH.out _)))))
  refine wpQuiet_nil ?_
  intro _ hlat
  obtain ⟨wq, rfl⟩ := hlat
  have HP2 := hide (HP1.out.below (lat_below w1 wq))
  have hx2 := heapB (lat_below w1 wq) HX1.out
  have HL2 := hide (HL1.out.below (lat_below w1 wq))
  have HX3 := hide (HX2.out.below (lat_below w1 wq))
  have HB2 := hide (below_wide HB1.out (lat_below w1 wq))
  clear HP1 HX1 HL1 HX2 HB1 b1 b2 b3 HF HG HH
  generalize lat w1 wq = w2 at *
  have hd := cell_heap (j := 0) hx2 rfl
  have hc := HP2.out.cell (j := 0) rfl
  have hc1 := lat_cell hc
  have g6 := lat_cell (cell_heap (j := 6) hx2 rfl)
  have g7 := lat_cell (cell_heap (j := 7) hx2 rfl)
  clear hx2
  have HCQ := hide (fun z => HCL.out (lat w2 z) (HL2.out.below (lat_below w2 z)) (HX3.out.below (lat_below w2 z)))
  go_wp2_with fail
  refine wp_region_lat (by kernel_rfl) (by kernel_rfl) ?_
  repeat (first | go_big_quiet_step ((go_at_call 63; with_reducible exact calls_lat (HCQ.out _))) | quiet_step ((go_at_call 63; with_reducible exact calls_lat (HCQ.out _))))
  refine wpQuiet_nil ?_
  intro _ hlat
  obtain ⟨wp, rfl⟩ := hlat
  clear hd hc
  go_wp2_with fail
  go_ret2
  exact ⟨rfl, below_wide HB2.out (lat_below _ _)⟩
end
end Go.Proofs.YtgfjdkkfgclhjaaGreat.Bd
/- What At, Size, Support, Count and Least answer within a play: what the table tells, or an error. -/
namespace Go.Proofs.YtgfjdkkfgclhjaaGreat.Bd
open Go.RowKit Go.Proofs.YtgfjdkkfgclhjaaGreat Go.Proofs.YtgfjdkkfgclhjaaGreat.Lx Go.Maps

theorem rise_nat {m : List Nat} (h : RiseI (encL m) (encL m).length) : Rise m := by
  rw [encL_len] at h
  have hs : ∀ (j : Nat), (hj : j + 1 < m.length) → m[j]'(by omega) < m[j + 1] := fun j hj => by
    have := h j _ _ hj (enc_at (List.getElem?_eq_getElem (by omega))) (enc_at (List.getElem?_eq_getElem hj))
    omega
  have hs2 : ∀ (d j : Nat) (hj : j + (d + 1) < m.length), m[j]'(by omega) < m[j + (d + 1)] := fun d => by
    induction d with
    | zero => exact hs
    | succ d ih =>
      intro j hj
      have h1 := ih j (by omega)
      have h2 := hs (j + (d + 1)) (by omega)
      exact Nat.lt_trans h1 h2
  refine List.pairwise_iff_getElem.2 (fun i j hi hj hij => ?_)
  obtain ⟨d, rfl⟩ : ∃ d, j = i + (d + 1) := ⟨j - i - 1, by omega⟩
  exact hs2 d i hj
theorem FitsP.nat {n : Nat} {f : Tb} {l : List Int} (h : FitsP n f l) : ∃ m : List Nat, l = encL m ∧ Rise m ∧ (∀ x ∈ m, x < n) ∧ (∀ v ∈ supR n f, v ∈ m) := by
  obtain ⟨m, rfl, hm⟩ := known_nat (known_iff.2 h.rng)
  refine ⟨m, rfl, rise_nat h.rise, hm, fun v hv => ?_⟩
  obtain ⟨y, hy, e⟩ := List.mem_map.1 (h.sup v hv)
  have : y = v := by omega
  exact this ▸ hy
set_option maxRecDepth 100000 in
theorem Least_none (k : Blk) (s : St) (A : Option Addr) (c : Nat) (l : List Int) (w : World) (hA : Ar w k s) (g0 : s.gi 0 = true) (hf : 0 < s.nd.length) (hS : Src w A l.length c 1 (l.map encI)) (hn : l.length ≤ 20000000000000) (hm : s.m + 2 ≤ 1000000000) (hr : ∀ (w w' : World) e, RisesOut s.vs s.nd 0 l w e w' → e = .returned (.bool true) ∧ Below w.heap.size w w') :
    Calls Tryz.prog 18 #[.pointer (some ⟨k.p, 0, none⟩), .int .i64 0, .slice A l.length c] w fun e w' => e = .returned (.tuple #[.slice none 0 0, .int .i64 5]) ∧ Below w.heap.size w w' := by
  have hbl := bel_one w (.cells #[.int .i64 0] 3)
  have HC := hide (check_any k s [(0 : Int)] w.heap.size _ (hA.below hbl) (cells1 w 0) (by simp) (by simp))
  rw [show [(0 : Int)].length = 1 from rfl, gvn_all (s := s) (l := [(0 : Int)]) (by simp [g0])] at HC
  have HRI := hide (rises_any k s 0 A c l (w.alloc (.cells #[.int .i64 0] 3)) (hA.below hbl) g0 hf (hS.below hbl) hn hm)
  have HR := hide (hr (w.alloc (.cells #[.int .i64 0] 3)))
  have HB := hide hbl
  clear hA g0 hf hS hbl hr
  go_enter Tryz.func18, Tryz.ntmps18
  go_wp2_with fail
  refine HC.out.mono ?_
  rintro e w1 ⟨rfl, rfl⟩
  go_wp2_with fail
  refine HRI.out.mono ?_
  intro e w2 hh
  obtain ⟨rfl, hb⟩ := HR.out _ _ hh
  have HB2 := hide (below_wide HB.out hb)
  clear hh hb
  go_wp2_with fail
  go_ret2
  exact ⟨rfl, HB2.out⟩
section
variable {w w' : World} {k : Blk} {s : St} {n ms q : Nat} {Fs : List (Env → Bool)} {ns : List Nat} {ts Hs : List Tb}
theorem Nod.gv {f : Nat} {F : Env → Bool} (nf : Nod s f (lowV n) F) : gvn s [(f : Int)] = 0 := gvn_all (by simp [nf.1])
theorem Nod.i64 {f : Nat} {F : Env → Bool} (h : Pl s n ms q Fs ns ts Hs) (L : Live w k s) (hq : q ≤ 60) (nf : Nod s f (lowV n) F) : I64 (f : Int) := by
  obtain ⟨g, t, d⟩ := nf
  have h1 := d.lt L.ar.wf
  have h2 := L.ar.nm
  have h3 := h.m
  unfold I64
  omega
/-- At -/
theorem At_p (h : Pl s n ms q Fs ns ts Hs) (L : Live w k s) (hq : q ≤ 60) {f : Nat} {F : Env → Bool} (nf : Nod s f (lowV n) F) (A : Option Addr) (c : Nat) (vals : List Bool) (hS : Src w A vals.length c 1 (vals.map Value.bool)) :
    Calls Tryz.prog 13 #[.pointer (some ⟨k.p, 0, none⟩), .int .i64 f, .slice A vals.length c] w fun e w' => e = .returned (.tuple #[.bool (if vals.length = n then atR n (tab n F) vals else false), .int .i64 (if vals.length = n then 0 else 1)]) ∧ Below w.heap.size w w' := by
  by_cases e : vals.length = n
  · rw [if_pos e, if_pos e]
    obtain ⟨g, t, d⟩ := nf
    rw [at_tab d.hn]
    exact At_any (lowV n) k s f t F A c vals w L.ar g d hS (by rw [h.vs]; exact e) (by rw [h.vs]; have := h.n6; omega) (fun x hx => by rw [h.vs]; exact of_decide_eq_true hx) (by have := h.m; omega)
  · rw [if_neg e, if_neg e]
    exact At_len k s f A vals.length c w L.ar (nf.i64 h L hq) nf.gv (by rw [h.vs]; exact e)
/-- Size -/
theorem Size_p (h : Pl s n ms q Fs ns ts Hs) (L : Live w k s) (hq : q ≤ 60) {f : Nat} {F : Env → Bool} (nf : Nod s f (lowV n) F) :
    Calls Tryz.prog 15 #[.pointer (some ⟨k.p, 0, none⟩), .int .i64 f] w fun e w' => e = .returned (.tuple #[.int .i64 (inner n (tab n F) []).length, .int .i64 0]) ∧ Below w.heap.size w w' := by
  obtain ⟨g, t, d⟩ := nf
  have hl := inner_len L.ar.wf (HeT.none s.nd n) d (by have := h.n6; omega)
  simp only [List.length_nil, Nat.zero_add] at hl
  rw [hl]
  exact Size_any k s f w L.ar g (d.lt L.ar.wf) (by have := h.m; omega)
/-- Support -/
theorem Support_p (h : Pl s n ms q Fs ns ts Hs) (L : Live w k s) (hq : q ≤ 60) {f : Nat} {F : Env → Bool} (nf : Nod s f (lowV n) F) :
    Calls Tryz.prog 16 #[.pointer (some ⟨k.p, 0, none⟩), .int .i64 f] w fun e w' => ∃ v, e = .returned (.tuple #[v, .int .i64 0]) ∧ IRow w.heap.size w' v (supR n (tab n F)) ∧ Below w.heap.size w w' := by
  obtain ⟨g, t, d⟩ := nf
  refine (Support_any k s f w L.ar g (d.lt L.ar.wf) (by have := h.m; omega)).mono ?_
  rintro e w' ⟨v, he, ho, hb⟩
  rw [sup_tab L.ar.wf d, encL_len] at ho
  exact ⟨v, he, ho, hb⟩
theorem FitsP.sub {f t : Nat} {F : Env → Bool} (L : Live w k s) (d : Den (lowV n) s.nd f t F) {m : List Nat} (hs : ∀ v ∈ supR n (tab n F), v ∈ m) : Den (fun x => decide (x ∈ m)) s.nd f t F := by
  refine d.narrow L.ar.wf.once (fun v hv => decide_eq_true (hs v ?_))
  have hx : (v : Int) ∈ supL s.nd f := (supL_mem L.ar.wf d v).2 ⟨v, rfl, hv⟩
  rw [sup_tab L.ar.wf d] at hx
  obtain ⟨y, hy, e⟩ := List.mem_map.1 hx
  have : y = v := by omega
  exact this ▸ hy
theorem fits_rises {f : Nat} {F : Env → Bool} (h : Pl s n ms q Fs ns ts Hs) (L : Live w k s) (nf : Nod s f (lowV n) F) {l : List Int} {w1 w2 : World} {e : Ending} (ho : RisesOut s.vs s.nd f l w1 e w2) : (∃ b, e = .returned (.bool b) ∧ (b = true ↔ FitsP n (tab n F) l)) ∧ Below w1.heap.size w1 w2 := by
  obtain ⟨g, t, d⟩ := nf
  have hsup := sup_tab L.ar.wf d
  rcases ho with ⟨h1, rfl, hb⟩ | ⟨h1, rfl, hb⟩
  · exact ⟨⟨false, rfl, ⟨fun e => (by cases e), fun hf => absurd hf.rise h1⟩⟩, hb⟩
  · refine ⟨⟨_, rfl, ?_⟩, hb⟩
    rw [h.vs, hsup, Bool.and_eq_true, known_iff, Bool.not_eq_true', List.any_eq_false]
    constructor
    · rintro ⟨h2, h3⟩
      refine ⟨h1, h2, fun v hv => ?_⟩
      have h4 := h3 (v : Int) (List.mem_map.2 ⟨v, hv, rfl⟩)
      unfold notIn at h4
      simp only [Bool.not_eq_true', Bool.not_eq_false', Bool.not_eq_eq_eq_not, Bool.not_true, List.any_eq_true, ne_eq, Bool.not_eq_false, Bool.not_false] at h4
      obtain ⟨x, hx, e⟩ := h4
      have : x = (v : Int) := (by simpa using e : (v : Int) = x).symm
      exact this ▸ hx
    · intro hf
      refine ⟨hf.rng, fun x hx => ?_⟩
      obtain ⟨v, hv, rfl⟩ := List.mem_map.1 hx
      have hm := hf.sup v hv
      unfold notIn
      simp only [Bool.not_eq_true', Bool.not_eq_false', Bool.not_eq_eq_eq_not, Bool.not_true, List.any_eq_true, ne_eq, Bool.not_eq_false, Bool.not_false]
      exact ⟨_, hm, by simp⟩
theorem nS_mem {m : List Nat} (hm : ∀ x ∈ m, x < n) (hn : n ≤ 6) (t : Nat) : nS (fun x => decide (x ∈ m)) t ≤ 6 := by
  have h1 := min_le (fun x => decide (x ∈ m)) t
  have h2 : nS (fun x => decide (x ∈ m)) 0 ≤ nS (lowV n) 0 := nS_sub id (fun y _ hy h => ⟨y, Nat.zero_le _, hy, by
    have := of_decide_eq_true h
    exact decide_eq_true (hm y this), rfl⟩)
  have := nS_low hn
  omega
/-- Count -/
theorem Count_fit (h : Pl s n ms q Fs ns ts Hs) (L : Live w k s) (hq : q ≤ 60) {f : Nat} {F : Env → Bool} (nf : Nod s f (lowV n) F) (A : Option Addr) (c : Nat) (m : List Nat) (hr : Rise m) (hm : ∀ x ∈ m, x < n) (hs : ∀ v ∈ supR n (tab n F), v ∈ m) (hS : Src w A m.length c 1 ((encL m).map encI)) :
    Calls Tryz.prog 17 #[.pointer (some ⟨k.p, 0, none⟩), .int .i64 f, .slice A m.length c] w fun e w' => e = .returned (.tuple #[.agg #[.int .u64 0, .int .u64 (countR (tab n F) (rowsR n m) : Nat)], .int .i64 0]) ∧ Below w.heap.size w w' := by
  obtain ⟨g, t, d⟩ := nf
  have hn := h.n6
  have hln := small_rows (hr.imp (fun h => by omega)) hm
  have hc := count_tab F hm hr
  have hle : countR (tab n F) (rowsR n m) ≤ 64 := by
    have h1 := count_le (tab n F) (rowsR n m) (rowsR n m).length
    rw [List.take_length] at h1
    have := rows_size (n := n) (l := m) (by omega)
    omega
  have hp : 2 ^ nS (fun x => decide (x ∈ m)) t ≤ 2 ^ 6 := Nat.pow_le_pow_right (by omega) (nS_mem hm hn t)
  have hC := Count_any (fun x => decide (x ∈ m)) k s f t F A c m w L.ar (by rw [h.vs]; omega) g (FitsP.sub L d hs) hr (fun x hx => by rw [h.vs]; exact hm x hx) (fun x hx => of_decide_eq_true hx) hS (by omega) (by have := h.m; omega) (by omega)
  refine hC.mono (fun e w' ⟨he, hb⟩ => ⟨?_, hb⟩)
  rw [he]
  unfold cEl ofN
  rw [show (fun _ => false : Env) = z0 from rfl] at hc
  rw [← hc, Nat.div_eq_of_lt (by omega), Nat.mod_eq_of_lt (by omega)]
  rfl
theorem Count_no (h : Pl s n ms q Fs ns ts Hs) (L : Live w k s) (hq : q ≤ 60) {f : Nat} {F : Env → Bool} (nf : Nod s f (lowV n) F) (A : Option Addr) (c : Nat) (l : List Int) (hS : Src w A l.length c 1 (l.map encI)) (hl : l.length ≤ 20000000000000) (hf : ¬ FitsP n (tab n F) l) :
    Calls Tryz.prog 17 #[.pointer (some ⟨k.p, 0, none⟩), .int .i64 f, .slice A l.length c] w fun e w' => e = .returned (.tuple #[.agg #[.int .u64 0, .int .u64 0], .int .i64 1]) ∧ Below w.heap.size w w' :=
  Count_unr k s f A c l w L.ar nf.1 (nf.2.choose_spec.lt L.ar.wf) hS hl (by have := h.m; omega) (fun w1 w2 e ho => by
    obtain ⟨⟨b, he, hb⟩, hbl⟩ := fits_rises h L nf ho
    cases b with
    | true => exact absurd (hb.1 rfl) hf
    | false => exact ⟨he, hbl⟩)
/-- Least -/
def LeastP (r : Option (List Bool)) (w : World) (e : Ending) (w' : World) : Prop := Below w.heap.size w w' ∧ match r with
  | none => e = .returned (.tuple #[.slice none 0 0, .int .i64 5])
  | some bs => ∃ g, e = .returned (.tuple #[.slice (some ⟨g, 0, none⟩) bs.length bs.length, .int .i64 0]) ∧ BRow w' g bs
theorem Least_fit (h : Pl s n ms q Fs ns ts Hs) (L : Live w k s) (hq : q ≤ 60) {f : Nat} {F : Env → Bool} (nf : Nod s f (lowV n) F) (A : Option Addr) (c : Nat) (m : List Nat) (hfit : FitsP n (tab n F) (encL m)) (hr : Rise m) (hm : ∀ x ∈ m, x < n) (hs : ∀ v ∈ supR n (tab n F), v ∈ m) (hS : Src w A m.length c 1 ((encL m).map encI)) :
    Calls Tryz.prog 18 #[.pointer (some ⟨k.p, 0, none⟩), .int .i64 f, .slice A m.length c] w (LeastP (leastR n (tab n F) m) w) := by
  have nf' := nf
  obtain ⟨g, t, d⟩ := nf
  have hn := h.n6
  have hln := small_rows (hr.imp (fun h => by omega)) hm
  have hd := FitsP.sub L d hs
  rw [least_tab L.ar.wf hd hm hr (fun x hx _ _ => of_decide_eq_true hx)]
  by_cases h0 : f = 0
  · subst h0
    rw [if_pos rfl]
    have hl := encL_len m
    rw [← hl] at hS ⊢
    refine (Least_none k s A c (encL m) w L.ar g (d.lt L.ar.wf) hS (by rw [hl]; omega) (by have := h.m; omega) (fun w1 w2 e ho => ?_)).mono (fun e w' ⟨he, hb⟩ => ⟨hb, he⟩)
    obtain ⟨⟨b, he, hb⟩, hbl⟩ := fits_rises h L nf' ho
    cases b with
    | true => exact ⟨he, hbl⟩
    | false => exact absurd (hb.2 hfit) Bool.false_ne_true
  · rw [if_neg h0]
    refine (Least_any (fun x => decide (x ∈ m)) k s f t F A c m w L.ar (by rw [h.vs]; omega) g hd h0 hr (fun x hx => by rw [h.vs]; exact hm x hx) (fun x hx => of_decide_eq_true hx) hS (by omega) (by have := h.m; omega)).mono ?_
    rintro e w' ⟨g', he, _, hrow, hb⟩
    refine ⟨hb, g', ?_, hrow⟩
    rw [lst_len]
    exact he
theorem Least_no (h : Pl s n ms q Fs ns ts Hs) (L : Live w k s) (hq : q ≤ 60) {f : Nat} {F : Env → Bool} (nf : Nod s f (lowV n) F) (A : Option Addr) (c : Nat) (l : List Int) (hS : Src w A l.length c 1 (l.map encI)) (hl : l.length ≤ 20000000000000) (hf : ¬ FitsP n (tab n F) l) :
    Calls Tryz.prog 18 #[.pointer (some ⟨k.p, 0, none⟩), .int .i64 f, .slice A l.length c] w fun e w' => e = .returned (.tuple #[.slice none 0 0, .int .i64 1]) ∧ Below w.heap.size w w' :=
  Least_unr k s f A c l w L.ar nf.1 (nf.2.choose_spec.lt L.ar.wf) hS hl (by have := h.m; omega) (fun w1 w2 e ho => by
    obtain ⟨⟨b, he, hb⟩, hbl⟩ := fits_rises h L nf ho
    cases b with
    | true => exact absurd (hb.1 rfl) hf
    | false => exact ⟨he, hbl⟩)
end
end Go.Proofs.YtgfjdkkfgclhjaaGreat.Bd
/- The document's tables of functions, in a row's words; gives within a play. -/
namespace Go.Proofs.YtgfjdkkfgclhjaaGreat.Bd
open Go.RowKit Go.Proofs.YtgfjdkkfgclhjaaGreat Go.Proofs.YtgfjdkkfgclhjaaGreat.Lx Go.Maps

/-- the operations of a region of a function's code -/
def regOf (id : Nat) : Code → Option (Array Oper)
  | .region i ops _ => if i = id then some ops else none
  | .seq a b => match regOf id a with | some x => some x | none => regOf id b
  | .cond _ a b => match regOf id a with | some x => some x | none => regOf id b
  | .block _ b => regOf id b
  | .loop b => regOf id b
  | .scope b => regOf id b
  | _ => none
def opsAt (P : Program) (f id : Nat) : List Oper := match P.funcs[f]? with
  | some fn => (match fn.body with | some c => ((regOf id c).getD #[]).toList | none => [])
  | none => []
theorem lex_of {l l' : List Oper} (h : l = l') (h2 : Region.lexB .any l'.toArray = true) : Region.lexB .any l.toArray = true := by rw [h]; exact h2
set_option maxRecDepth 100000 in
/-- makes' great condition: the order of the text serves every order -/
theorem lex7 : Region.lexB .any (opsAt Tryz.prog 9 7).toArray = true := by kernel_rfl
/-- a new table of a function -/
def TabO (n m : Nat) (K : Env → Bool) (w : World) (e : Ending) (w' : World) : Prop := ∃ g, e = .returned (.slice (some ⟨g, 0, none⟩) m m) ∧ BRow w' g (tab n K) ∧ Below w.heap.size w w'
section
variable {n m : Nat} {w : World}
theorem tabO_of {K : Env → Bool} {T : Tb} (hm : m = 2 ^ n) (hT : T = tab n K) {e : Ending} {w' : World} (h : RowOut T w e w') : TabO n m K w e w' := by
  obtain ⟨g, rfl, _, hr, hb⟩ := h
  subst hT
  rw [tab_len, ← hm]
  exact ⟨g, rfl, hr, hb⟩
theorem row_src {g : Nat} {F : Env → Bool} (hm : m = 2 ^ n) (h : BRow w g (tab n F)) : Src w (some ⟨g, 0, none⟩) m m 1 ((tab n F).map Value.bool) := by
  have := h.src
  rw [tab_len, ← hm] at this
  exact this
theorem All_t (hm : m = 2 ^ n) (hn : n ≤ 6) (b : Bool) : Calls Tryz.prog 7 #[.int .i64 n, .bool b] w (TabO n m (fun _ => b) w) :=
  (All_any n b w hn).mono (fun _ _ h => tabO_of hm (all_tab n b) h)
theorem Var_t (hm : m = 2 ^ n) (hn : n ≤ 6) {v : Nat} (hv : v < n) : Calls Tryz.prog 30 #[.int .i64 n, .int .i64 v] w (TabO n m (fun ρ => ρ v) w) :=
  (Var_tab n v w hn hv).mono (fun _ _ h => tabO_of hm (var_tab hv) h)
theorem Ite_t (hm : m = 2 ^ n) (hn : n ≤ 6) {F G H : Env → Bool} {g1 g2 g3 : Nat} (h1 : BRow w g1 (tab n F)) (h2 : BRow w g2 (tab n G)) (h3 : BRow w g3 (tab n H)) :
    Calls Tryz.prog 31 #[.slice (some ⟨g1, 0, none⟩) m m, .slice (some ⟨g2, 0, none⟩) m m, .slice (some ⟨g3, 0, none⟩) m m] w (TabO n m (fun ρ => if F ρ then G ρ else H ρ) w) := by
  have hl : (tab n F).length = m := by rw [tab_len, hm]
  have h := Ite_tab (tab n F) (tab n G) (tab n H) (some ⟨g1, 0, none⟩) (some ⟨g2, 0, none⟩) (some ⟨g3, 0, none⟩) m m m w (by rw [hl]; exact row_src hm h1) (by rw [hl]; exact row_src hm h2) (by rw [hl]; exact row_src hm h3) (by rw [tab_len]; exact pow_le6 hn) (by rw [tab_len, tab_len]) (by rw [tab_len, tab_len])
  rw [hl] at h
  exact h.mono (fun _ _ h => tabO_of hm (ite_tab n F G H) h)
theorem Restrict_t (hm : m = 2 ^ n) (hn : n ≤ 6) {F : Env → Bool} {g : Nat} (h1 : BRow w g (tab n F)) {v : Nat} (hv : v < n) (b : Bool) :
    Calls Tryz.prog 32 #[.int .i64 n, .slice (some ⟨g, 0, none⟩) m m, .int .i64 v, .bool b] w (TabO n m (fun ρ => F (upd ρ v b)) w) := by
  have hl : (tab n F).length = m := by rw [tab_len, hm]
  have h := Restrict_tab n (tab n F) (some ⟨g, 0, none⟩) m v b w (by rw [hl]; exact row_src hm h1) hn hv (tab_len n F)
  rw [hl] at h
  exact h.mono (fun _ _ h => tabO_of hm (rest_tab F b hv) h)
theorem Over_t (hm : m = 2 ^ n) (hn : n ≤ 6) {F : Env → Bool} {g : Nat} (h1 : BRow w g (tab n F)) (A : Option Addr) (c : Nat) (l : List Nat) (all : Bool) (hS : Src w A l.length c 1 ((encL l).map encI)) (hx : ∀ x ∈ l, x < n) (hln : l.length ≤ maxLen) :
    Calls Tryz.prog 33 #[.int .i64 n, .slice (some ⟨g, 0, none⟩) m m, .slice A l.length c, .bool all] w (TabO n m (overT (jn all) (fun y => decide (y ∈ l)) F) w) := by
  have hl : (tab n F).length = m := by rw [tab_len, hm]
  have h := Over_tab n (tab n F) g A c l all w h1 hS hn (tab_len n F) hx hln
  rw [hl] at h
  refine h.mono ?_
  rintro e w' ⟨v, rfl, ⟨g', rfl, hr⟩, hb⟩
  rw [ov_tab (by omega) all l F hx] at hr ⊢
  rw [tab_len, ← hm]
  exact ⟨g', rfl, hr, hb⟩
theorem Rename_t (hm : m = 2 ^ n) (hn : n ≤ 6) {F : Env → Bool} {g : Nat} (h1 : BRow w g (tab n F)) (A1 A2 : Option Addr) (c1 c2 : Nat) (l1 l2 : List Nat) (hS1 : Src w A1 l1.length c1 1 ((encL l1).map encI)) (hS2 : Src w A2 l2.length c2 1 ((encL l2).map encI)) (he : l1.length = l2.length) (hnd : l1.Nodup) (hx1 : ∀ x ∈ l1, x < n) (hx2 : ∀ x ∈ l2, x < n) :
    Calls Tryz.prog 34 #[.int .i64 n, .slice (some ⟨g, 0, none⟩) m m, .slice A1 l1.length c1, .slice A2 l2.length c2] w (TabO n m (fun ρ => F (renE (l1.zip l2) ρ ρ)) w) := by
  have hl : (tab n F).length = m := by rw [tab_len, hm]
  have hsm := small_rows hnd hx1
  have h := Rename_tab n (tab n F) (some ⟨g, 0, none⟩) A1 A2 m c1 c2 l1 l2 w (by rw [hl]; exact row_src hm h1) hS1 hS2 hn (tab_len n F) he hx1 hx2 (by omega)
  rw [hl] at h
  refine h.mono (fun _ _ h => tabO_of hm (ren_tab F (fun p hp => ⟨hx1 _ (List.of_mem_zip hp).1, hx2 _ (List.of_mem_zip hp).2⟩)) h)
end
theorem of_sign {m : Nat} {x : Int} : ofP m x < 0 ↔ x < 0 := by
  unfold ofP
  split
  · omega
  · rename_i h
    have := Int.emod_nonneg x (b := (m : Int))
    by_cases hm : (m : Int) = 0
    · rw [hm, Int.emod_zero]
    · have := this hm
      omega
def TwP (l : List Int) (b : Bool) : Prop := b = true ↔ ¬ l.Nodup
theorem tw_of {tw : Bool} {l1 : List Int} (ht : TwP l1 tw) {z w' : World} {e : Ending} (hh : (∃ b, e = .returned (.bool b) ∧ (b = true ↔ ¬ l1.Nodup)) ∧ Below z.heap.size z w') : e = .returned (.bool tw) ∧ Below z.heap.size z w' := by
  obtain ⟨⟨b, he, hb⟩, hbl⟩ := hh
  refine ⟨?_, hbl⟩
  unfold TwP at ht
  have : b = tw := by
    cases b <;> cases tw <;> simp_all
  rw [he, this]
/-- what an act leaves -/
def MkOut (D : Nat → Array Value → TypeId → Prop) (B pp n ms q : Nat) (w : World) (e : Ending) (w' : World) : Prop :=
  e = .returned (.bool true) ∧ Below B w w' ∧ ∃ k s ns Vn ts vs Vt Hs Vh Fs, PlM D B w' pp k s n ms ns Vn ts vs Vt Hs Vh ∧ Pl s n ms (q + 1) Fs ns ts Hs ∧ Live w' k s
section
variable {D : Nat → Array Value → TypeId → Prop} {B : Nat} {w w' w0 : World} {pp : Nat} {k k0 : Blk} {s s0 : St} {n m ms q : Nat} {ns : List Nat} {Vn : Value} {ts : List Tb} {vs : List Value} {Vt : Value} {Hs : List Tb} {Vh : Value} {Fs : List (Env → Bool)}
theorem MkOut.after {e : Ending} (h : MkOut D B pp n ms q w e w') (hb : Below B w0 w) : MkOut D B pp n ms q w0 e w' := ⟨h.1, hb.trans h.2.1, h.2.2⟩
theorem Live.of (L : Live w k s) (h : PlM D B w' pp k s n ms ns Vn ts vs Vt Hs Vh) : Live w' k s := ⟨h.ar, L.ad, L.g0, L.g1⟩
theorem PlM.row (h : PlM D B w pp k s n ms ns Vn ts vs Vt Hs Vh) (hm : m = 2 ^ n) {a : Nat} {F : Env → Bool} (ha : ts[a]? = some (tab n F)) : ∃ (ad : Addr) (c g : Nat), Vt = .slice (some ad) ts.length c ∧ w.cell? (ad.add a) = some (.slice (some ⟨g, 0, none⟩) m m) ∧ BRow w g (tab n F) := by
  obtain ⟨A, c, hA⟩ := own_slice h.tabs.own
  have hlt : a < ts.length := (List.getElem?_eq_some_iff.1 ha).1
  obtain ⟨g, t, h1, h2, h3⟩ := h.tabs.tv.get hlt
  rw [ha] at h1
  cases h1
  have ho := h.tabs.own
  rw [hA] at ho
  obtain ⟨ad, rfl, hc⟩ := srcW_at (src_of_own ho) h2
  rw [tab_len, ← hm] at hc
  exact ⟨ad, c, g, hA, hc, h3⟩
theorem give_no (h : PlM D B w pp k s n ms ns Vn ts vs Vt Hs Vh) (P : Pl s n ms q Fs ns ts Hs) (L : Live w k s) (V : Value) : Calls Tryz.prog 29 #[.pointer (some ⟨pp, 0, none⟩), .int .i64 0, .int .i64 1, V, .int .i64 1] w (MkOut D B pp n ms q w) := by
  refine (gives_no pp V w).mono ?_
  rintro e w' ⟨rfl, rfl⟩
  exact ⟨rfl, (Below.refl _ w).mono (Nat.le_trans h.lo (Nat.le_of_lt h.lt)), k, s, ns, Vn, ts, vs, Vt, Hs, Vh, Fs, h, P.skip, L⟩
theorem give_full (h : PlM D B w pp k s n ms ns Vn ts vs Vt Hs Vh) (P : Pl s n ms (q + 1) Fs ns ts Hs) (L : Live w k s) (hm : m = 2 ^ n) {gt : Nat} {G : Env → Bool} (ht : BRow w gt (tab n G)) (hful : ms < (inner n (tab n G) Hs).length) :
    Calls Tryz.prog 29 #[.pointer (some ⟨pp, 0, none⟩), .int .i64 0, .int .i64 3, .slice (some ⟨gt, 0, none⟩) m m, .int .i64 0] w (MkOut D B pp n ms q w) := by
  have hc := gives_full h gt (tab n G) ht P.n6 (tab_len n G) (P.hs L) P.hn hful (P.ms_le L)
  rw [tab_len, ← hm] at hc
  refine hc.mono ?_
  rintro e w' ⟨rfl, hP, hb⟩
  exact ⟨rfl, hb, k, s, ns, Vn, ts, vs, Vt, Hs, Vh, Fs, hP, P, L.of hP⟩
theorem give_ok (h : PlM D B w pp k s n ms ns Vn ts vs Vt Hs Vh) (P0 : Pl s0 n ms q Fs ns ts Hs) (L0 : Live w0 k0 s0) (hq : q ≤ 60) {r : Nat} {G : Env → Bool} (P : Pl s n ms (q + 1) (Fs ++ [G]) (ns ++ [r]) (ts ++ [tab n G]) (inner n (tab n G) Hs)) (L : Live w k s) (hm : m = 2 ^ n) {gt : Nat} (ht : BRow w gt (tab n G)) (hok : (inner n (tab n G) Hs).length ≤ ms) (hr : r ≤ 2000000000) (hcmp : ∀ (j a : Nat) (u : Tb), ns[j]? = some a → ts[j]? = some u → (a = r ↔ u = tab n G)) :
    Calls Tryz.prog 29 #[.pointer (some ⟨pp, 0, none⟩), .int .i64 r, .int .i64 0, .slice (some ⟨gt, 0, none⟩) m m, .int .i64 0] w (MkOut D B pp n ms q w) := by
  have hc := gives_ok h gt (tab n G) ht P.n6 (tab_len n G) P0.t64 (P0.hs L0) P.hn hok (P.ms_le L) r hr P0.tlen hcmp (by have := P0.sm; omega)
  rw [tab_len, ← hm] at hc
  refine hc.mono ?_
  rintro e w' ⟨rfl, ⟨Vn', vs', Vt', Vh', hP⟩, hb⟩
  exact ⟨rfl, hb, k, s, _, Vn', _, vs', Vt', _, Vh', _, hP, P, L.of hP⟩
end
end Go.Proofs.YtgfjdkkfgclhjaaGreat.Bd
