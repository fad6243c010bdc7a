/- What the claim leans on, part 3 of 7: BM BN BO BP BR PO BS BU BV. -/
import Derived.Test.YtgfjdkkfgclhjaaSp01
import Derived.Test.YtgfjdkkfgclhjaaSp02
/- each: a function is made anew, from the last variable up: its walk. -/
namespace Go.Proofs.Ytgfjdkkfgclhjaa.Bd
open Go.RowKit Go.Proofs.Ytgfjdkkfgclhjaa Go.Proofs.Ytgfjdkkfgclhjaa.Lx Go.Maps

/-- all but the arena's own blocks and block d is as it was -/
structure TurnX (d : Nat) (k k' : Blk) (w w' : World) : Prop where
  os : w'.os = w.os
  tape : w'.tape = w.tape
  output : w'.output = w.output
  size : w.heap.size ≤ w'.heap.size
  p : k'.p = k.p
  bm : k'.bm = k.bm
  it : k'.it = k.it
  gi : k'.gi = k.gi
  he : k'.he = k.he
  row : k'.g = k.g ∨ w.heap.size ≤ k'.g
  block : ∀ i, i < w.heap.size → ¬ fp k i → i ≠ d → w'.heap[i]? = w.heap[i]?
theorem Turn.x {k k' : Blk} {w w' : World} (h : Turn k k' w w') (d : Nat) : TurnX d k k' w w' := ⟨h.os, h.tape, h.output, h.size, h.p, h.bm, h.it, h.gi, h.he, h.row, fun i hi hf _ => h.block i hi hf⟩
theorem TurnX.fpn {d : Nat} {k k' : Blk} {w w' : World} (h : TurnX d k k' w w') {i : Nat} (hi : i < w.heap.size) (hf : ¬ fp k i) : ¬ fp k' i := by
  intro hf'
  apply hf
  unfold fp at hf' ⊢
  rw [h.p, h.bm, h.it, h.gi, h.he] at hf'
  rcases hf' with e | e | e
  · exact .inl e
  · rcases h.row with e' | e'
    · exact .inr (.inl (by omega))
    · omega
  · exact .inr (.inr e)
theorem TurnX.trans {d : Nat} {k k' k2 : Blk} {w w' w2 : World} (h : TurnX d k k' w w') (h2 : TurnX d k' k2 w' w2) : TurnX d k k2 w w2 := by
  have hs := h.size
  refine ⟨h2.os.trans h.os, h2.tape.trans h.tape, h2.output.trans h.output, Nat.le_trans h.size h2.size, h2.p.trans h.p, h2.bm.trans h.bm, h2.it.trans h.it, h2.gi.trans h.gi, h2.he.trans h.he, ?_, fun i hi hf hd => (h2.block i (by omega) (h.fpn hi hf) hd).trans (h.block i hi hf hd)⟩
  rcases h2.row with e | e
  · rcases h.row with e' | e'
    · exact .inl (e.trans e')
    · exact .inr (by omega)
  · exact .inr (by omega)
theorem TurnX.heap {d : Nat} {k k' : Blk} {w w' : World} (h : TurnX d k k' w w') {i : Nat} {o : Obj} (hc : w.heap[i]? = some o) (hf : ¬ fp k i) (hd : i ≠ d) : w'.heap[i]? = some o := (h.block _ (lt_heap hc) hf hd).trans hc
theorem TurnX.turn {d : Nat} {k0 k k' : Blk} {w0 w w' : World} (T : Turn k0 k w0 w) (h : TurnX d k k' w w') (hd : w0.heap.size ≤ d) : Turn k0 k' w0 w' := by
  have hs := T.size
  refine ⟨h.os.trans T.os, h.tape.trans T.tape, h.output.trans T.output, Nat.le_trans T.size h.size, h.p.trans T.p, h.bm.trans T.bm, h.it.trans T.it, h.gi.trans T.gi, h.he.trans T.he, ?_, fun i hi hf => (h.block i (by omega) (T.fpn hi hf) (by omega)).trans (T.block i hi hf)⟩
  rcases h.row with e | e
  · rcases T.row with e' | e'
    · exact .inl (e.trans e')
    · exact .inr (by omega)
  · exact .inr (by omega)
theorem TurnX.map {d : Nat} {k : Blk} {w w' : World} (h : w.mapTurned w' d) : TurnX d k k w w' :=
  ⟨h.grown.os, h.grown.tape, h.grown.output, h.grown.size, rfl, rfl, rfl, rfl, rfl, .inl rfl, fun i hi _ hd => h.grown.block i hi (fun e => hd (by injection e))⟩
theorem TurnX.below {d : Nat} {k : Blk} {w w' : World} (h : Below w.heap.size w w') : TurnX d k k w w' := (Turn.below h).x d
/-- a map that lies outside of what may turn -/
theorem MInt.block {P : Program} {w w' : World} {kt e : TypeId} {q : IntKind} {b n : Nat} {α : Type} {en : α → Value} {f : α → Option Int} (h : MInt P w kt e q b n en f) (hos : w'.os = w.os) (ht : w'.tape = w.tape) (ho : w'.output = w.output) (hs : w.heap.size ≤ w'.heap.size) (hb : w'.heap[b]? = w.heap[b]?) : MInt P w' kt e q b n en f := by
  -- every other block may have turned: as if the map were the only one that the world keeps
  obtain ⟨D, h1, h2⟩ := h
  obtain ⟨es, cl, hh, F, hs', hD⟩ := h1
  exact ⟨D, ⟨es, cl, hb.trans hh, F, hs', hD⟩, h2⟩
theorem MInt.x {d : Nat} {k k' : Blk} {w w' : World} {kt e : TypeId} {q : IntKind} {b n : Nat} {α : Type} {en : α → Value} {f : α → Option Int} (h : MInt Try.prog w kt e q b n en f) (T : TurnX d k k' w w') (hf : ¬ fp k b) (hd : b ≠ d) : MInt Try.prog w' kt e q b n en f :=
  h.block T.os T.tape T.output T.size (T.block b h.lt hf hd)
theorem MInt.turn {k k' : Blk} {w w' : World} {kt e : TypeId} {q : IntKind} {b n : Nat} {α : Type} {en : α → Value} {f : α → Option Int} (h : MInt Try.prog w kt e q b n en f) (T : Turn k k' w w') (hf : ¬ fp k b) : MInt Try.prog w' kt e q b n en f :=
  h.block T.os T.tape T.output T.size (T.block b h.lt hf)

/-! ### what is asked of a function that makes -/
/-- node r is what becomes of node i -/
def GoodAt (S : Nat → Bool) (nd0 : List Nd) (S' : Nat → Nat → Bool) (bd : Nat → Nat → Prop) (T : (Env → Bool) → Env → Bool) (nd' : List Nd) (i r : Nat) : Prop :=
  ∀ t F, Den S nd0 i t F → ∃ t', bd t t' ∧ Den (S' t) nd' r t' (T F)
theorem GoodAt.append {S : Nat → Bool} {nd0 : List Nd} {S' : Nat → Nat → Bool} {bd : Nat → Nat → Prop} {T : (Env → Bool) → Env → Bool} {nd' ex : List Nd} {i r : Nat} (h : GoodAt S nd0 S' bd T nd' i r) : GoodAt S nd0 S' bd T (nd' ++ ex) i r := by
  intro t F d
  obtain ⟨t', h1, h2⟩ := h t F d
  exact ⟨t', h1, h2.append⟩
theorem GoodAt.up {S : Nat → Bool} {nd0 : List Nd} {S' : Nat → Nat → Bool} {bd : Nat → Nat → Prop} {T : (Env → Bool) → Env → Bool} {s s' : St} {i r : Nat} (h : GoodAt S nd0 S' bd T s.nd i r) (hu : Up s s') : GoodAt S nd0 S' bd T s'.nd i r := by
  obtain ⟨ex, e⟩ := hu.nd
  rw [e]; exact h.append
def MadeOK (S : Nat → Bool) (nd0 : List Nd) (S' : Nat → Nat → Bool) (bd : Nat → Nat → Prop) (T : (Env → Bool) → Env → Bool) (k0 : Blk) (w0 : World) (M : FuncId) (caps : Array Value) : Prop :=
  ∀ (k : Blk) (s : St) (w : World) (v tl th r1 r2 t1 t2 : Nat) (Fl Fh : Env → Bool), Turn k0 k w0 w → Ar w k s → (∃ ex, s.nd = nd0 ++ ex) → v < 256 → S v = true → v < tl → v < th → bd tl t1 → Den (S' tl) s.nd r1 t1 (T Fl) → bd th t2 → Den (S' th) s.nd r2 t2 (T Fh) →
    (∀ ρ ρ' : Env, (∀ x, v < x → x < 256 → ρ x = ρ' x) → Fl ρ = Fl ρ') → (∀ ρ ρ' : Env, (∀ x, v < x → x < 256 → ρ x = ρ' x) → Fh ρ = Fh ρ') → s.m + 2 ^ (nS S v + 2) ≤ 1000000000 →
    Calls Try.prog M (#[.int .i32 v, .int .i32 r1, .int .i32 r2] ++ caps) w (NodeOut k s w (2 ^ (nS S v + 2)) (fun nd' r => ∃ t', bd v t' ∧ Den (S' v) nd' r t' (T (fun ρ => if ρ v then Fh ρ else Fl ρ))))
structure DoneOK (S : Nat → Bool) (nd0 : List Nd) (S' : Nat → Nat → Bool) (bd : Nat → Nat → Prop) (T : (Env → Bool) → Env → Bool) (nd' : List Nd) (fd : Int → Option Int) : Prop where
  d0 : fd 0 = some 0
  d1 : fd 1 = some 1
  all : ∀ x c, fd x = some c → ∃ i r : Nat, x = i ∧ c = r ∧ r < nd'.length ∧ GoodAt S nd0 S' bd T nd' i r
theorem DoneOK.up {S : Nat → Bool} {nd0 : List Nd} {S' : Nat → Nat → Bool} {bd : Nat → Nat → Prop} {T : (Env → Bool) → Env → Bool} {s s' : St} {fd : Int → Option Int} (h : DoneOK S nd0 S' bd T s.nd fd) (hu : Up s s') : DoneOK S nd0 S' bd T s'.nd fd := by
  refine ⟨h.d0, h.d1, fun x c hc => ?_⟩
  obtain ⟨i, r, h1, h2, h3, h4⟩ := h.all x c hc
  exact ⟨i, r, h1, h2, by have := hu.len; omega, h4.up hu⟩
theorem DoneOK.put {S : Nat → Bool} {nd0 : List Nd} {S' : Nat → Nat → Bool} {bd : Nat → Nat → Prop} {T : (Env → Bool) → Env → Bool} {nd' : List Nd} {fd : Int → Option Int} (h : DoneOK S nd0 S' bd T nd' fd) {i r : Nat} (h2 : 2 ≤ i) (hr : r < nd'.length) (hg : GoodAt S nd0 S' bd T nd' i r) : DoneOK S nd0 S' bd T nd' (fun x => if x = (i : Int) then some (r : Int) else fd x) := by
  refine ⟨by rw [if_neg (by omega)]; exact h.d0, by rw [if_neg (by omega)]; exact h.d1, fun x c hc => ?_⟩
  split at hc
  · rename_i e
    cases hc
    exact ⟨i, r, e, rfl, hr, hg⟩
  · exact h.all x c hc
/-- what the walk has in memory -/
structure Es (w : World) (p b1 b2 b3 b4 db N : Nat) (M : FuncId) (caps : Array Value) (fd : Int → Option Int) : Prop where
  c1 : w.heap[b1]? = some (.cells #[.map (some db)] 79 (0, 0))
  c2 : w.heap[b2]? = some (.cells #[.pointer (some ⟨p, 0, none⟩)] 24 (0, 0))
  c3 : w.heap[b3]? = some (.cells #[.func (.func 56) #[] #[.pointer (some ⟨b1, 0, none⟩), .pointer (some ⟨b2, 0, none⟩), .pointer (some ⟨b3, 0, none⟩), .pointer (some ⟨b4, 0, none⟩)]] 92 (0, 0))
  c4 : w.heap[b4]? = some (.cells #[.func (.func M) #[] caps] 83 (0, 0))
  done : MInt Try.prog w 21 21 .i32 db N enc3 fd
structure Apart (k : Blk) (base b1 b2 b3 b4 db : Nat) : Prop where
  n1 : ¬ fp k b1
  n2 : ¬ fp k b2
  n3 : ¬ fp k b3
  n4 : ¬ fp k b4
  nd : ¬ fp k db
  l1 : base ≤ db
theorem Es.lt {w : World} {p b1 b2 b3 b4 db N : Nat} {M : FuncId} {caps : Array Value} {fd : Int → Option Int} (E : Es w p b1 b2 b3 b4 db N M caps fd) : b1 < w.heap.size ∧ b2 < w.heap.size ∧ b3 < w.heap.size ∧ b4 < w.heap.size ∧ db < w.heap.size := ⟨lt_heap E.c1, lt_heap E.c2, lt_heap E.c3, lt_heap E.c4, E.done.lt⟩
theorem Es.ne {w : World} {p b1 b2 b3 b4 db N : Nat} {M : FuncId} {caps : Array Value} {fd : Int → Option Int} (E : Es w p b1 b2 b3 b4 db N M caps fd) : b1 ≠ db ∧ b2 ≠ db ∧ b3 ≠ db ∧ b4 ≠ db := by
  obtain ⟨_, _, h⟩ := E.done.heap
  exact ⟨ne_kind E.c1 h, ne_kind E.c2 h, ne_kind E.c3 h, ne_kind E.c4 h⟩
theorem Es.x {w w' : World} {k k' : Blk} {p b1 b2 b3 b4 db N N' base : Nat} {M : FuncId} {caps : Array Value} {fd fd' : Int → Option Int} (E : Es w p b1 b2 b3 b4 db N M caps fd) (A : Apart k base b1 b2 b3 b4 db) (T : TurnX db k k' w w') (hd : MInt Try.prog w' 21 21 .i32 db N' enc3 fd') :
    Es w' p b1 b2 b3 b4 db N' M caps fd' ∧ Apart k' base b1 b2 b3 b4 db := by
  obtain ⟨e1, e2, e3, e4⟩ := E.ne
  obtain ⟨l1, l2, l3, l4, l5⟩ := E.lt
  exact ⟨⟨T.heap E.c1 A.n1 e1, T.heap E.c2 A.n2 e2, T.heap E.c3 A.n3 e3, T.heap E.c4 A.n4 e4, hd⟩, ⟨T.fpn l1 A.n1, T.fpn l2 A.n2, T.fpn l3 A.n3, T.fpn l4 A.n4, T.fpn l5 A.nd, A.l1⟩⟩
theorem Es.t {w w' : World} {k k' : Blk} {p b1 b2 b3 b4 db N base : Nat} {M : FuncId} {caps : Array Value} {fd : Int → Option Int} (E : Es w p b1 b2 b3 b4 db N M caps fd) (A : Apart k base b1 b2 b3 b4 db) (T : Turn k k' w w') :
    Es w' p b1 b2 b3 b4 db N M caps fd ∧ Apart k' base b1 b2 b3 b4 db := E.x A (T.x db) (E.done.turn T A.nd)
/-- what the walk over a node answers -/
def WalkOut (S : Nat → Bool) (nd0 : List Nd) (S' : Nat → Nat → Bool) (bd : Nat → Nat → Prop) (T : (Env → Bool) → Env → Bool) (k : Blk) (s : St) (w : World) (db N n f : Nat) (e : Ending) (w' : World) : Prop :=
  ∃ (k' : Blk) (s' : St) (r N' : Nat) (fd' : Int → Option Int), e = .returned (.int .i32 (r : Nat)) ∧ Ar w' k' s' ∧ Up s s' ∧ s'.m ≤ s.m + n * 2 ^ (n + 2) ∧ N' + 1 ≤ N + 2 ^ n ∧ TurnX db k k' w w' ∧ MInt Try.prog w' 21 21 .i32 db N' enc3 fd' ∧ DoneOK S nd0 S' bd T s'.nd fd' ∧ r < s'.nd.length ∧ GoodAt S nd0 S' bd T s'.nd f r
def WalkAt (S : Nat → Bool) (nd0 : List Nd) (S' : Nat → Nat → Bool) (bd : Nat → Nat → Prop) (T : (Env → Bool) → Env → Bool) (k0 : Blk) (w0 : World) (M : FuncId) (caps : Array Value) (b1 b2 b3 b4 db n : Nat) : Prop :=
  ∀ (f t : Nat) (F : Env → Bool) (k : Blk) (s : St) (w : World) (N : Nat) (fd : Int → Option Int), f < n → Den S nd0 f t F → Ar w k s → (∃ ex, s.nd = nd0 ++ ex) → Turn k0 k w0 w → Es w k.p b1 b2 b3 b4 db N M caps fd → DoneOK S nd0 S' bd T s.nd fd → Apart k w0.heap.size b1 b2 b3 b4 db → s.m + nS S t * 2 ^ (nS S t + 2) ≤ 1000000000 → N + 2 ^ nS S t ≤ 2000000000 →
    Calls Try.prog 56 #[.int .i32 f, .pointer (some ⟨b1, 0, none⟩), .pointer (some ⟨b2, 0, none⟩), .pointer (some ⟨b3, 0, none⟩), .pointer (some ⟨b4, 0, none⟩)] w (WalkOut S nd0 S' bd T k s w db N (nS S t) f)
end Go.Proofs.Ytgfjdkkfgclhjaa.Bd
/- each: the walk, made. -/
namespace Go.Proofs.Ytgfjdkkfgclhjaa.Bd
open Go.RowKit Go.Proofs.Ytgfjdkkfgclhjaa Go.Proofs.Ytgfjdkkfgclhjaa.Lx Go.Maps

theorem walk_room {a n : Nat} : (n + 1) * 2 ^ (n + 1 + 2) = 2 * (n * 2 ^ (n + 2)) + 2 ^ (n + 1 + 2) ∧ 2 ^ (n + 1) = 2 * 2 ^ n ∧ 1 ≤ 2 ^ n := by
  refine ⟨?_, by rw [Nat.pow_succ]; omega, Nat.one_le_two_pow⟩
  rw [show n + 1 + 2 = (n + 2) + 1 by omega, Nat.pow_succ, Nat.add_mul, Nat.one_mul, ← Nat.mul_assoc, Nat.mul_comm (n * 2 ^ (n + 2)) 2]
theorem room_mono {a b : Nat} (h : a ≤ b) : a * 2 ^ (a + 2) ≤ b * 2 ^ (b + 2) ∧ 2 ^ a ≤ 2 ^ b := ⟨Nat.mul_le_mul h (Nat.pow_le_pow_right (by omega) (by omega)), Nat.pow_le_pow_right (by omega) h⟩

/-- an arena doesn't see another map -/
theorem hA4x {w w' : World} {k : Blk} {s : St} {p b1 b2 b3 b4 db N base : Nat} {M : FuncId} {caps : Array Value} {fd : Int → Option Int} (h : Ar w k s) (E : Es w p b1 b2 b3 b4 db N M caps fd) (A : Apart k base b1 b2 b3 b4 db) (hmt : w.mapTurned w' db) : Ar w' k s := by
  obtain ⟨fb, ft, H, I⟩ := h
  exact ⟨fb, ft, H.kept hmt.grown (fun b e => by injection e with e; subst e; exact A.nd), I⟩
theorem made_call {S : Nat → Bool} {nd0 : List Nd} {S' : Nat → Nat → Bool} {bd : Nat → Nat → Prop} {T : (Env → Bool) → Env → Bool} {k0 k2 k3 : Blk} {w0 wd w3 : World} {M : FuncId} {caps : Array Value} {db t lo hi tl th x1 x2 : Nat} {Fl Fh : Env → Bool} {s2 s3 : St} (HM : MadeOK S nd0 S' bd T k0 w0 M caps) (hA3 : Ar w3 k3 s3) (U3 : Up s2 s3) (hex : ∃ ex, s2.nd = nd0 ++ ex)
    (X3 : TurnX db k2 k3 wd w3) (T2 : Turn k0 k2 w0 wd) (hdb : w0.heap.size ≤ db) (g1 : GoodAt S nd0 S' bd T s2.nd lo x1) (g2 : GoodAt S nd0 S' bd T s3.nd hi x2) (dl : Den S nd0 lo tl Fl) (dh : Den S nd0 hi th Fh) (h1 : t < tl) (h2 : t < th) (ht : t < 256) (hS : S t = true) (hm : s3.m + 2 ^ (nS S t + 2) ≤ 1000000000) :
    Calls Try.prog M (#[.int .i32 t, .int .i32 x1, .int .i32 x2] ++ caps) w3 (NodeOut k3 s3 w3 (2 ^ (nS S t + 2)) (fun nd' r => ∃ t', bd t t' ∧ Den (S' t) nd' r t' (T (fun ρ => if ρ t then Fh ρ else Fl ρ)))) := by
  obtain ⟨ex, hex⟩ := hex
  obtain ⟨ex3, hex3⟩ := U3.nd
  obtain ⟨t1, b1, d1⟩ := g1.up U3 tl Fl dl
  obtain ⟨t2, b2, d2⟩ := g2 th Fh dh
  exact HM k3 s3 w3 t tl th x1 x2 t1 t2 Fl Fh (X3.turn T2 hdb) hA3 ⟨ex ++ ex3, by rw [hex3, hex, List.append_assoc]⟩ ht hS h1 h2 b1 d1 b2 d2 (fun ρ ρ' h => dl.indep ρ ρ' (fun x hx => h x (by omega))) (fun ρ ρ' h => dh.indep ρ ρ' (fun x hx => h x (by omega))) hm

set_option maxHeartbeats 8000000 in
set_option maxRecDepth 100000 in
theorem walk_step (S : Nat → Bool) (nd0 : List Nd) (S' : Nat → Nat → Bool) (bd : Nat → Nat → Prop) (T : (Env → Bool) → Env → Bool) (k0 : Blk) (w0 : World) (M : FuncId) (caps : Array Value) (b1 b2 b3 b4 db n : Nat) (HM : Hid (MadeOK S nd0 S' bd T k0 w0 M caps)) (hW0 : WF nd0) (hcall : ∀ (xs : Array Value) (w : World), (callFunc M xs).run Try.prog w = .ok (.enter M xs) w) (IH : WalkAt S nd0 S' bd T k0 w0 M caps b1 b2 b3 b4 db n) : WalkAt S nd0 S' bd T k0 w0 M caps b1 b2 b3 b4 db (n + 1) := by
  intro f t F k s w N fd hfn d hA hex hT hE hD hAp hm hN
  obtain ⟨ex, hex⟩ := hex
  obtain ⟨fb, ft, H, I⟩ := hA
  have hnm := I.nm
  have hlen : nd0.length ≤ s.nd.length := by rw [hex, List.length_append]; omega
  have hfl : f < nd0.length := d.lt hW0
  have hrm := (room_mono (Nat.zero_le (nS S t))).1
  have k1 := cell_heap (j := 0) hE.c1 rfl
  have lk : (Instr.lookup 79 (.map (some db)) (.int .i32 f) true).run Try.prog w = .ok (.tuple #[.int .i32 ((fd f).getD 0), .bool (fd f).isSome]) w :=
    hE.done.look keyed3 Try.underlying79 Try.underlying21 (zero3 _) (key3 f (by omega) (by omega))
  cases hf : fd f with
  | some c =>
    obtain ⟨i, r, e1, rfl, hr, hg⟩ := hD.all _ _ hf
    have e1 : i = f := by omega
    subst e1
    rw [hf] at lk
    simp only [Option.getD_some, Option.isSome_some] at lk
    have HX := hide (show WalkOut S nd0 S' bd T k s w db N (nS S t) i (.returned (.int .i32 (r : Nat))) w from ⟨k, s, r, N, fd, rfl, ⟨fb, ft, H, I⟩, Up.refl _, by omega, by have := Nat.one_le_two_pow (n := nS S t); omega, TurnX.below (Below.refl _ w), hE.done, hD, hr, hg⟩)
    clear H I hE hD hT hAp IH d hg hex
    go_enter Try.func56, Try.ntmps56
    go_wp2_with fail
    go_ret
    exact HX.out
  | none =>
    have h2 : 2 ≤ f := by
      rcases (by omega : f = 0 ∨ f = 1 ∨ 2 ≤ f) with rfl | rfl | h
      · have := hD.d0; rw [show ((0 : Nat) : Int) = 0 from rfl] at hf; rw [hf] at this; cases this
      · have := hD.d1; rw [show ((1 : Nat) : Int) = 1 from rfl] at hf; rw [hf] at this; cases this
      · exact h
    obtain ⟨lo, hi, tl, th, Fl, Fh, hr, r1, r2, r3, r4, r5, r6, r7, dl, dh, rfl⟩ := d.row h2
    rw [hf] at lk
    simp only [Option.getD_none, Option.isSome_none] at lk
    have hx : s.nd[f]? = some (t, lo, hi) := by rw [hex, List.getElem?_append_left hfl]; exact hr
    obtain ⟨n0, n1, n2⟩ := H.node hx
    have c2 := H.c2
    have kk2 := cell_heap (j := 0) hE.c2 rfl
    have hfi : (f : Int) < s.nd.length := by omega
    -- the room
    obtain ⟨m, hmS⟩ : ∃ m, m = nS S (t + 1) := ⟨_, rfl⟩
    have hst := nS_step S r6
    rw [r7, if_pos rfl, ← hmS, Nat.add_comm] at hst
    have ml := nS_le S (show t + 1 ≤ tl by omega)
    have mh := nS_le S (show t + 1 ≤ th by omega)
    rw [← hmS] at ml mh
    obtain ⟨q1, q2, q3⟩ := walk_room (a := 0) (n := m)
    rw [hst] at hm hN ⊢
    rw [q1] at hm
    rw [q2] at hN
    have ql := room_mono ml
    have qh := room_mono mh
    have HQ1 := hide q1
    have HQ2 := hide q2
    have HMS := hide hmS
    have HST := hide hst
    generalize hP : 2 ^ (m + 1 + 2) = P at hm
    generalize hR : m * 2 ^ (m + 2) = R at hm ql qh
    generalize hE2 : 2 ^ m = E2 at hN ql qh q3
    have HP := hide hP
    have HR := hide hR
    have HE2 := hide hE2
    -- what the walk holds
    have hbl := bel_one w (.cells #[.int .i32 t, .int .i32 lo, .int .i32 hi] 58)
    obtain ⟨E1, A1⟩ := hE.t hAp (Turn.below (k := k) hbl)
    have z0 := heap_new w (.cells #[.int .i32 t, .int .i32 lo, .int .i32 hi] 58)
    have hA1 : Ar (w.alloc (.cells #[.int .i32 t, .int .i32 lo, .int .i32 hi] 58)) k s := ⟨fb, ft, H.below hbl, I⟩
    have T1 := hT.trans (Turn.below (k := k) hbl)
    have hnf : ¬ fp k w.heap.size := fun hf => by have := H.lt _ hf; omega
    have hnd : w.heap.size ≠ db := by have := hE.done.lt; omega
    have hdb := hAp.l1
    have HC1 := hide (IH lo tl Fl k s _ N fd (by omega) dl hA1 ⟨ex, hex⟩ T1 E1 hD A1 (by omega) (by omega))
    have kk3 := cell_heap (j := 0) E1.c3 rfl
    have HXB := hide (TurnX.below (d := db) (k := k) hbl)
    have HZ0 := hide z0
    have HE1 := hide E1
    have HA1 := hide A1
    have HT1 := hide T1
    have HIH := hide IH
    have HDD := hide (And.intro d (And.intro dl dh))
    have HEX := hide hex
    have y1 := cell_heap (j := 1) z0 rfl
    clear E1 A1 hA1 T1 hE hAp hT hD z0 hbl IH d dl dh hex hmS hst q1 q2 hP hR hE2 hx
    go_enter Try.func56, Try.ntmps56
    go_wp2_with fail
    refine HC1.out.mono ?_
    intro e w2 hh
    unfold WalkOut at hh
    obtain ⟨k2, s2, x1, N2, fd2, rfl, hA2, hU2, hm2, hN2, hX2, hd2, hD2, hr2, hg2⟩ := hh
    obtain ⟨E2', A2⟩ := HE1.out.x HA1.out hX2 hd2
    have z2 := hX2.heap HZ0.out hnf hnd
    have hf2 := hX2.fpn (lt_heap HZ0.out) hnf
    have T2 := hX2.turn HT1.out hdb
    have hlen2 := hU2.len
    obtain ⟨ex2, hex2⟩ := hU2.nd
    have hex2' : ∃ ex, s2.nd = nd0 ++ ex := ⟨ex ++ ex2, by rw [hex2, HEX.out, List.append_assoc]⟩
    have hdr := (Below.refl w2.heap.size w2).drew
    have a2d := hA2.below hdr
    obtain ⟨E2d, A2d⟩ := E2'.t A2 (Turn.below (k := k2) hdr)
    have T2d := T2.trans (Turn.below (k := k2) hdr)
    have HC2 := hide (HIH.out hi th Fh k2 s2 _ N2 fd2 (by omega) HDD.out.2.2 a2d hex2' T2d (by rw [hX2.p]; exact E2d) hD2 A2d (by omega) (by omega))
    have hk2 : w2.drew.cell? ⟨b4, 0, none⟩ = some (.func (.func M) #[] caps) ∧ w2.drew.cell? ⟨w.heap.size, 0, none⟩ = some (.int .i32 t) ∧ w2.drew.cell? ⟨b3, 0, none⟩ = some (.func (.func 56) #[] #[.pointer (some ⟨b1, 0, none⟩), .pointer (some ⟨b2, 0, none⟩), .pointer (some ⟨b3, 0, none⟩), .pointer (some ⟨b4, 0, none⟩)]) ∧ w2.drew.cell? ⟨w.heap.size, 2, none⟩ = some (.int .i32 hi) := ⟨cell_heap E2'.c4 rfl, cell_heap z2 rfl, cell_heap E2'.c3 rfl, cell_heap z2 rfl⟩
    clear n0 n1 n2 c2 k1 kk2 lk kk3 y1
    go_wp2_with fail
    have hX2d := hX2.trans (TurnX.below (d := db) (k := k2) hdr)
    have HX2 := hide hX2d
    have HU2 := hide hU2
    have HM2 := hide hm2
    have HN2 := hide hN2
    have HG2 := hide hg2
    have HHd := hide hr
    have HF2 := hide hf2
    have HA2d := hide A2d
    have HE2d := hide E2d
    have HT2d := hide T2d
    have HX2p := hide hX2.p
    have HLE := hide hex2'
    have Hz2 := hide (show w2.drew.heap[w.heap.size]? = some _ from z2)
    clear hA2 hX2 hm2 hN2 hU2 hd2 hD2 hg2 E2' A2 z2 T2 hex2 hex2' a2d E2d A2d T2d hX2d HC1 hr hf2
    have HB : Hid (∀ a3 : Nat, s2.m ≤ s.m + nS S tl * 2 ^ (nS S tl + 2) → a3 ≤ s2.m + nS S th * 2 ^ (nS S th + 2) → a3 + 2 ^ (nS S t + 2) ≤ 1000000000) := by
      intro a3 h1 h2
      rw [HST.out, HP.out]
      omega
    have hwd : w.heap.size < w2.drew.heap.size := lt_heap Hz2.out
    go_region_held3 (fun w' => w'.cell? ⟨b4, 0, none⟩ = some (.func (.func M) #[] caps) ∧ w'.cell? ⟨w.heap.size, 0, none⟩ = some (.int .i32 t) ∧ w'.cell? ⟨b3, 0, none⟩ = some (.func (.func 56) #[] #[.pointer (some ⟨b1, 0, none⟩), .pointer (some ⟨b2, 0, none⟩), .pointer (some ⟨b3, 0, none⟩), .pointer (some ⟨b4, 0, none⟩)]) ∧ w'.cell? ⟨w.heap.size, 2, none⟩ = some (.int .i32 hi))
      (first | exact hk2 | exact hk3 | exact hk4)
      (first
        | (go_at_call 56; (with_reducible refine HC2.out.mono ?_); intro e w3 hh; unfold WalkOut at hh; obtain ⟨k3, s3, x2, N3, fd3, he, hA3, hU3, hm3, hN3, hX3, hd3, hD3, hr3, hg3⟩ := hh; subst he; obtain ⟨E3', A3⟩ := HE2d.out.x HA2d.out hX3 hd3; have z3 := hX3.heap Hz2.out HF2.out hnd; have hf3 := hX3.fpn hwd HF2.out; have hk3 := And.intro (cell_heap (j := 0) E3'.c4 rfl) (And.intro (cell_heap (j := 0) z3 rfl) (And.intro (cell_heap (j := 0) E3'.c3 rfl) (cell_heap (j := 2) z3 rfl))); have HA3 := hide hA3; have HU3 := hide hU3; have HX3 := hide hX3; have HM3 := hide hm3; have HN3 := hide hN3; have HE3 := hide E3'; have HAp3 := hide A3; have HD3 := hide hD3; have HG3 := hide hg3; have HR3 := hide hr3; have HZ3 := hide z3; have HF3 := hide hf3; clear hA3 hU3 hX3 hm3 hN3 E3' A3 hD3 hg3 hr3 z3 hf3 hd3)
        | ((with_reducible refine (made_call HM.out HA3.out HU3.out HLE.out HX3.out HT2d.out hdb HG2.out HG3.out HDD.out.2.1 HDD.out.2.2 r4 r5 r6 r7 (HB.out _ HM2.out HM3.out)).mono ?_); intro e w4 hh; unfold NodeOut at hh; obtain ⟨k4, s4, r, he, hA4, hT4, hU4, hm4, hg4⟩ := hh; subst he; obtain ⟨E4', A4⟩ := HE3.out.t HAp3.out hT4; have z4 := hT4.heap HZ3.out HF3.out; have hf4 := hT4.fpn (lt_heap HZ3.out) HF3.out; have hk4 := And.intro (cell_heap (j := 0) E4'.c4 rfl) (And.intro (cell_heap (j := 0) z4 rfl) (And.intro (cell_heap (j := 0) E4'.c3 rfl) (cell_heap (j := 2) z4 rfl))); have HA4 := hide hA4; have HU4 := hide hU4; have HT4 := hide hT4; have HM4 := hide hm4; have HG4 := hide hg4; have HE4 := hide E4'; have HAp4 := hide A4; clear hA4 hU4 hT4 hm4 hg4 E4' A4 z4 hf4))
    all_goals (
      have k41 := cell_heap (j := 0) HE4.out.c1 rfl
      have hrl : r < s4.nd.length := by
        obtain ⟨t', _, d'⟩ := HG4.out
        exact d'.lt HA4.out.wf
      have hnm4 := HA4.out.nm
      have hN3 := HN3.out
      have hN2 := HN2.out
      have hm3 := HM3.out
      have hm2 := HM2.out
      have hm4 := HM4.out
      have hU := hide ((HU2.out.trans HU3.out).trans HU4.out)
      have hPx := HP.out
      have hQ2 := HQ2.out
      have hE2x := HE2.out
      have hrg : GoodAt S nd0 S' bd T s4.nd f r := by
        intro t' F' d'
        obtain ⟨rfl, rfl⟩ := HDD.out.1.det d'
        exact HG4.out
      have hmM : s4.m ≤ s.m + (m + 1) * 2 ^ (m + 1 + 2) := by
        rw [HQ1.out, HR.out, HP.out]
        rw [HST.out, HP.out] at hm4
        omega
      have hNN : N3 + 1 + 1 ≤ N + 2 ^ (m + 1) := by rw [hQ2, hE2x]; omega
      have hNb : N3 < maxLen := by unfold maxLen; omega
      have hm10 : s4.m ≤ 1000000000 := by rw [HST.out, HP.out] at hm4; omega
      have hwf : (Lit.int .i32 r).wf = true := wf3 (by omega) (by omega)
      have hk3f := key3 (f : Int) (by omega) (by omega)
      have hD4 := hide ((HD3.out.up HU4.out).put h2 hrl hrg)
      have HRG := hide hrg
      have HMM := hide hmM
      have HNN := hide hNN
      clear hmM hNN hrg hm4 hm2 hm3 hN3 hN2 hPx hQ2 hE2x hk2 hk3 hk4
      go_wp2_with (at_mapUpdate; go_must (refine wpList_put rfl (.tmp 40) (.tmp 41) (.tmp 42) rfl HE4.out.done keyed3 Try.underlying79 Try.underlying21 hNb enc3_inj rfl (f : Int) _ rfl hk3f r rfl hwf ?_))
      intro w5 hmi hmt
      have HX := hide (show WalkOut S nd0 S' bd T k s w db N (m + 1) f (.returned (.int .i32 (r : Nat))) w5 from
        ⟨k4, s4, r, N3 + 1, _, rfl, hA4x HA4.out HE4.out HAp4.out hmt, hU.out, HMM.out, HNN.out, ((HXB.out.trans HX2.out).trans HX3.out).trans ((HT4.out.x db).trans (TurnX.map hmt)), hmi, hD4.out, hrl, HRG.out⟩)
      clear hmi hmt
      go_wp2_with fail
      go_ret
      exact HX.out)
end Go.Proofs.Ytgfjdkkfgclhjaa.Bd
/- each, whole. -/
namespace Go.Proofs.Ytgfjdkkfgclhjaa.Bd
open Go.RowKit Go.Proofs.Ytgfjdkkfgclhjaa Go.Proofs.Ytgfjdkkfgclhjaa.Lx Go.Maps

section
variable {P : Program} {w : World} {k e t : TypeId} {q : IntKind} {b n N : Nat} {α : Type} {en : α → Value} {ops : Array Oper} {rest : List Oper} {o : Oper} {a : Act} {Q : Exit → Act → World → Prop}
theorem wpList_insI [DecidableEq α] (hg : o.guard = none) (m x v : Operand) (hop : o.op = Op.insert t m x v) {f : α → Option Int} (h : MInt P w k e q b n en f) (K : Keyed P k) (ht : P.underlying t = some (.map k e)) (he : P.underlying e = some (.int q)) (hn : n < maxLen) (inj : ∀ x y, en x = en y → x = y)
    (hm : a.eval m = .map (some b)) (key : α) (kl : Lit) (hx : a.eval x = en key) (hkey : keyOf P k (en key) = some kl) (c : Int) (hv : a.eval v = .int q c) (hc : (Lit.int q c).wf = true)
    (hK : ∀ w', MInt P w' k e q b (n + 1) en (fun x => if x = key then some c else f x) → w.mapTurned w' b → wpList P ops Q rest (a.put o.dst undef) w') : wpList P ops Q (o :: rest) a w := by
  refine wpList_plain hg fun K' hK' => ?_
  obtain ⟨w', hrun, r1, r2⟩ := h.store K ht he hn inj hkey hc
  unfold Oper.wp
  simp [execOp, hop, hm, hx, hv, hrun, Result.andThen]
  exact hK' _ _ (hK w' r1 r2)
end
def fd0 : Int → Option Int := fun x => if x = 1 then some 1 else if x = 0 then some 0 else none
theorem es_start {w w1 w2 : World} {p : Nat} {M : FuncId} {caps : Array Value} (ht1 : World.mapTurned (((w.alloc (.cells #[.pointer (some ⟨p, 0, none⟩)] 24)).alloc (.cells #[.func (.func M) #[] caps] 83)).alloc (.map #[] 0)) w1 (w.heap.size + 2)) (ht2 : w1.mapTurned w2 (w.heap.size + 2))
    (hm : MInt Try.prog w2 21 21 .i32 (w.heap.size + 2) 2 enc3 fd0) :
    Es ((w2.alloc (.cells #[.map (some (w.heap.size + 2))] 79)).alloc (.cells #[(.func (.func 56) #[] #[.pointer (some ⟨w2.heap.size, 0, none⟩), .pointer (some ⟨w.heap.size, 0, none⟩), .pointer (some ⟨w2.heap.size + 1, 0, none⟩), .pointer (some ⟨w.heap.size + 1, 0, none⟩)])] 92))
      p w2.heap.size w.heap.size (w2.heap.size + 1) (w.heap.size + 1) (w.heap.size + 2) 2 M caps fd0 ∧ w.heap.size + 3 ≤ w2.heap.size ∧
    Below w.heap.size w ((w2.alloc (.cells #[.map (some (w.heap.size + 2))] 79)).alloc (.cells #[(.func (.func 56) #[] #[.pointer (some ⟨w2.heap.size, 0, none⟩), .pointer (some ⟨w.heap.size, 0, none⟩), .pointer (some ⟨w2.heap.size + 1, 0, none⟩), .pointer (some ⟨w.heap.size + 1, 0, none⟩)])] 92)) := by
  have hg := (ht1.trans ht2).grown
  have hs := hg.size
  simp only [World.size_alloc] at hs
  have c2 : w2.heap[w.heap.size]? = some (.cells #[.pointer (some ⟨p, 0, none⟩)] 24 (0, 0)) := heap_grown (heap_old (heap_old (heap_new _ _))) hg (opt_ne (by omega))
  have c4 : w2.heap[w.heap.size + 1]? = some (.cells #[.func (.func M) #[] caps] 83 (0, 0)) := by
    have := heap_new (w.alloc (.cells #[.pointer (some ⟨p, 0, none⟩)] 24)) (.cells #[.func (.func M) #[] caps] 83)
    rw [show (w.alloc (.cells #[.pointer (some ⟨p, 0, none⟩)] 24)).heap.size = w.heap.size + 1 by simp] at this
    exact heap_grown (heap_old this) hg (opt_ne (by omega))
  have hb : Below w.heap.size w w2 := ((((Below.refl _ w).alloc (Nat.le_refl _) _).alloc (by simp) _).alloc (by simp; omega) _).grown hg (by simp; omega) (fun b e => by injection e with e; omega)
  refine ⟨⟨heap_old (heap_new _ _), heap_old (heap_old c2), ?_, heap_old (heap_old c4), ?_⟩, by omega, (hb.alloc (by omega) _).alloc (by simp; omega) _⟩
  · have := heap_new (w2.alloc (.cells #[.map (some (w.heap.size + 2))] 79)) (.cells #[(.func (.func 56) #[] #[.pointer (some ⟨w2.heap.size, 0, none⟩), .pointer (some ⟨w.heap.size, 0, none⟩), .pointer (some ⟨w2.heap.size + 1, 0, none⟩), .pointer (some ⟨w.heap.size + 1, 0, none⟩)])] 92)
    rw [show (w2.alloc (.cells #[.map (some (w.heap.size + 2))] 79)).heap.size = w2.heap.size + 1 by simp] at this
    exact this
  · exact (hm.kept (World.grownBy_alloc _ _ none) (by simp)).kept (World.grownBy_alloc _ _ none) (by simp)
theorem fd0_eq : (fun x : Int => if x = 1 then some (1 : Int) else if x = 0 then some 0 else none) = fd0 := rfl
theorem done_start {S : Nat → Bool} {nd0 : List Nd} {S' : Nat → Nat → Bool} {bd : Nat → Nat → Prop} {T : (Env → Bool) → Env → Bool} (h2 : 2 ≤ nd0.length) (h0 : bd 256 256) (t0 : T (fun _ => false) = fun _ => false) (t1 : T (fun _ => true) = fun _ => true) : DoneOK S nd0 S' bd T nd0 fd0 := by
  refine ⟨rfl, rfl, fun x c hc => ?_⟩
  unfold fd0 at hc
  split at hc
  · rename_i e
    cases hc
    refine ⟨1, 1, e, rfl, by omega, fun t F d => ?_⟩
    obtain ⟨rfl, rfl⟩ := d.det .one
    exact ⟨256, h0, by rw [t1]; exact .one⟩
  · split at hc
    · rename_i e
      cases hc
      refine ⟨0, 0, e, rfl, by omega, fun t F d => ?_⟩
      obtain ⟨rfl, rfl⟩ := d.det .zero
      exact ⟨256, h0, by rw [t0]; exact .zero⟩
    · cases hc
theorem walk_all (S : Nat → Bool) (nd0 : List Nd) (S' : Nat → Nat → Bool) (bd : Nat → Nat → Prop) (T : (Env → Bool) → Env → Bool) (k0 : Blk) (w0 : World) (M : FuncId) (caps : Array Value) (b1 b2 b3 b4 db : Nat) (HM : MadeOK S nd0 S' bd T k0 w0 M caps) (hW0 : WF nd0) (hcall : ∀ (xs : Array Value) (w : World), (callFunc M xs).run Try.prog w = .ok (.enter M xs) w) : ∀ n, WalkAt S nd0 S' bd T k0 w0 M caps b1 b2 b3 b4 db n := by
  intro n
  induction n with
  | zero => intro f t F k s w N fd h; omega
  | succ n ih => exact walk_step S nd0 S' bd T k0 w0 M caps b1 b2 b3 b4 db n (hide HM) hW0 hcall ih

set_option maxHeartbeats 4000000 in
set_option maxRecDepth 100000 in
/-- a function made anew -/
theorem each_any (S : Nat → Bool) (S' : Nat → Nat → Bool) (bd : Nat → Nat → Prop) (T : (Env → Bool) → Env → Bool) (k : Blk) (s : St) (M : FuncId) (caps : Array Value) (f t : Nat) (F : Env → Bool) (w : World) (hA : Ar w k s) (d : Den S s.nd f t F) (HM : MadeOK S s.nd S' bd T k w M caps) (hcall : ∀ (xs : Array Value) (w : World), (callFunc M xs).run Try.prog w = .ok (.enter M xs) w)
    (h0 : bd 256 256) (t0 : T (fun _ => false) = fun _ => false) (t1 : T (fun _ => true) = fun _ => true) (hm : s.m + nS S t * 2 ^ (nS S t + 2) + 2 ≤ 1000000000) :
    Calls Try.prog 38 #[.pointer (some ⟨k.p, 0, none⟩), .int .i32 f, .func (.func M) #[] caps] w (NodeOut k s w (nS S t * 2 ^ (nS S t + 2) + 2) (fun nd' r => ∃ t', bd t t' ∧ Den (S' t) nd' r t' (T F))) := by
  have hW := hA.wf
  have HD0 := hide (done_start (S := S) (S' := S') hW.two h0 t0 t1)
  have HC := hide (fun b1 b2 b3 b4 db => walk_all S s.nd S' bd T k w M caps b1 b2 b3 b4 db HM hW hcall (f + 1))
  have HF : Hid (∀ i, w.heap.size ≤ i → ¬ fp k i) := by
    obtain ⟨_, _, H, _⟩ := hA
    exact fun i hi hf => by have := H.lt i hf; omega
  have HA := hide hA
  have HDn := hide d
  have hp2 : 2 ^ nS S t ≤ 1000000000 := by
    rcases Nat.eq_zero_or_pos (nS S t) with e | e
    · rw [e]; decide
    · have h1 : 2 ^ nS S t ≤ 2 ^ (nS S t + 2) := Nat.pow_le_pow_right (by omega) (by omega)
      have h2 := Nat.le_mul_of_pos_left (2 ^ (nS S t + 2)) e
      omega
  have HMS := hide (MInt.made (P := Try.prog) ((w.alloc (.cells #[.pointer (some ⟨k.p, 0, none⟩)] 24)).alloc (.cells #[.func (.func M) #[] caps] 83)) 21 21 .i32 enc3)
  have hsz : ((w.alloc (.cells #[.pointer (some ⟨k.p, 0, none⟩)] 24)).alloc (.cells #[.func (.func M) #[] caps] 83)).heap.size = w.heap.size + 2 := by simp
  rw [hsz] at HMS
  have hmm := @run_makeMap Try.prog
  have hk0 := key3 0 (by omega) (by omega)
  have hk1 := key3 1 (by omega) (by omega)
  have hw0 : (Lit.int .i32 0).wf = true := wf3 (by omega) (by omega)
  have hw1 : (Lit.int .i32 1).wf = true := wf3 (by omega) (by omega)
  generalize hn : nS S t = n at *
  have HN := hide hn
  clear hA d HM hcall t0 t1 hn
  go_enter Try.func38, Try.ntmps38
  go_wp2_with (refine wpList_insI rfl (.tmp 9) _ _ rfl HMS.out keyed3 Try.underlying79 Try.underlying21 (by unfold maxLen; omega) enc3_inj rfl (0 : Int) _ rfl hk0 0 rfl hw0 ?_)
  intro w1 hm1 ht1
  have HM1 := hide hm1
  have HT1 := hide ht1
  clear hm1 ht1
  go_wp2_with (refine wpList_insI rfl (.tmp 9) _ _ rfl HM1.out keyed3 Try.underlying79 Try.underlying21 (by unfold maxLen; omega) enc3_inj rfl (1 : Int) _ rfl hk1 1 rfl hw1 ?_)
  intro w2 hm2 ht2
  have HM2 := hide hm2
  have HT2 := hide ht2
  clear hm2 ht2
  have HV := hide (es_start HT1.out HT2.out HM2.out)
  go_wp2_with fail
  have hB := HV.out.2.2
  have hs2 := HV.out.2.1
  have HG := hide (HC.out _ _ _ _ _ f t F k s _ 2 fd0 (by omega) HDn.out (HA.out.below hB) ⟨[], by simp⟩ (Turn.below hB) HV.out.1 HD0.out ⟨HF.out _ (by omega), HF.out _ (by omega), HF.out _ (by omega), HF.out _ (by omega), HF.out _ (by omega), by omega⟩ (by rw [HN.out]; omega) (by rw [HN.out]; omega))
  refine HG.out.mono ?_
  intro e w3 hh
  unfold WalkOut at hh
  obtain ⟨k', s', r, N', fd', rfl, hA', hU', hm', hN', hX', _, _, hr', hg'⟩ := hh
  have HX := hide (show NodeOut k s w (n * 2 ^ (n + 2) + 2) (fun nd' r => ∃ t', bd t t' ∧ Den (S' t) nd' r t' (T F)) (.returned (.int .i32 (r : Nat))) w3 from
    ⟨k', s', r, rfl, hA', hX'.turn (Turn.below hB) (by omega), hU', by rw [HN.out] at hm'; omega, hg' t F HDn.out⟩)
  clear hA' hU' hm' hN' hX' hr' hg' HG HV HT1 HT2 HM1 HM2 HMS
  go_wp2_with fail
  go_ret
  exact HX.out
end Go.Proofs.Ytgfjdkkfgclhjaa.Bd
/- slices.IndexFunc, ContainsFunc, Index, Contains at []int; known. -/
namespace Go.Proofs.Ytgfjdkkfgclhjaa.Bd
open Go.RowKit Go.Proofs.Ytgfjdkkfgclhjaa Go.Proofs.Ytgfjdkkfgclhjaa.Lx Go.Maps

/-- the place of the first one, or -1 -/
def idxOf (p : Int → Bool) : List Int → Int
  | [] => -1
  | x :: xs => if p x then 0 else if idxOf p xs < 0 then -1 else idxOf p xs + 1
theorem idxOf_ge (p : Int → Bool) (l : List Int) : -1 ≤ idxOf p l ∧ idxOf p l < l.length := by
  induction l with
  | nil => simp [idxOf]
  | cons x xs ih =>
    simp only [idxOf, List.length_cons]
    split
    · omega
    · split <;> omega
theorem idxOf_any (p : Int → Bool) (l : List Int) : decide (0 ≤ idxOf p l) = l.any p := by
  induction l with
  | nil => rfl
  | cons x xs ih =>
    have := idxOf_ge p xs
    rw [Bool.eq_iff_iff, decide_eq_true_iff] at ih ⊢
    rw [List.any_cons, Bool.or_eq_true, ← ih]
    rw [show idxOf p (x :: xs) = if p x then 0 else if idxOf p xs < 0 then -1 else idxOf p xs + 1 from rfl]
    by_cases h : p x = true
    · rw [if_pos h]; simp [h]
    · rw [if_neg h]
      split
      · constructor
        · intro h1; omega
        · rintro (h1 | h1)
          · exact absurd h1 h
          · omega
      · constructor
        · intro h1; right; omega
        · intro h1; omega
theorem idxOf_none {p : Int → Bool} {l : List Int} (h : ∀ x ∈ l, p x = false) : idxOf p l = -1 := by
  induction l with
  | nil => rfl
  | cons x xs ih =>
    simp only [idxOf, h x (by simp), Bool.false_eq_true, if_false, ih (fun y hy => h y (by simp [hy]))]
    simp
theorem idxOf_at {p : Int → Bool} : ∀ {l : List Int} {i : Nat} {x : Int}, l[i]? = some x → p x = true → (∀ y ∈ l.take i, p y = false) → idxOf p l = i := by
  intro l
  induction l with
  | nil => intro i x h; simp at h
  | cons z zs ih =>
    intro i x h hp hall
    cases i with
    | zero =>
      have : z = x := by simpa using h
      subst this
      simp [idxOf, hp]
    | succ i =>
      have hz : p z = false := hall z (by simp)
      have := ih (i := i) (x := x) (by simpa using h) hp (fun y hy => hall y (by simp [hy]))
      simp only [idxOf, hz, Bool.false_eq_true, if_false, this]
      rw [if_neg (by omega)]
      omega
theorem src_at {w : World} {A : Option Addr} {m c : Nat} {l : List Int} (h : Src w A m c 1 (l.map encI)) {i : Nat} {x : Int} (hx : l[i]? = some x) : ∃ ad, A = some ad ∧ w.cell? (ad.add i) = some (.int .i64 x) := by
  obtain ⟨h1, ⟨_, h2, _⟩ | ⟨ad, h2, h3⟩⟩ := h
  · have := lt_of_some hx
    simp only [List.length_map] at h1
    omega
  · exact ⟨ad, h2, h3 i _ (by rw [List.getElem?_map, hx]; rfl)⟩
theorem src_len {w : World} {A : Option Addr} {m c : Nat} {l : List Int} (h : Src w A m c 1 (l.map encI)) : m = l.length := by
  have := h.1
  simp only [List.length_map] at this
  omega

set_option maxHeartbeats 1000000 in
set_option maxRecDepth 100000 in
theorem indexFunc_any (A : Option Addr) (c : Nat) (l : List Int) (M : FuncId) (caps : Array Value) (p : Int → Bool) (w : World) (hS : Src w A l.length c 1 (l.map encI)) (hn : l.length ≤ maxLen) (hcall : ∀ (xs : Array Value) (w : World), (callFunc M xs).run Try.prog w = .ok (.enter M xs) w)
    (hM : ∀ x ∈ l, Calls Try.prog M (#[.int .i64 x] ++ caps) w fun e w' => e = .returned (.bool (p x)) ∧ w = w') :
    Calls Try.prog 62 #[.slice A l.length c, .func (.func M) #[] caps] w fun e w' => e = .returned (.int .i64 (idxOf p l)) ∧ w = w' := by
  have HS := hide hS
  have HM := hide hM
  unfold maxLen at hn
  clear hS hM
  go_enter Try.func62, Try.ntmps62
  go_wp2_with fail
  go_loop [5, 8] (fun _ j => ∃ i : Nat, j = .int .i64 i ∧ i ≤ l.length ∧ ∀ x ∈ l.take i, p x = false) (fun _ j => l.length - (intOf j).toNat)
  case atStart => exact ⟨0, rfl, Nat.zero_le _, by simp⟩
  case round =>
    obtain ⟨i, rfl, hi, hall⟩ := hrel
    rcases Nat.lt_or_ge i l.length with hlt | hge
    · obtain ⟨x, hx⟩ : ∃ x, l[i]? = some x := ⟨_, List.getElem?_eq_getElem hlt⟩
      have d1 : decide (i < l.length) = true := by simpa using hlt
      have d2 : ((i : Int) < l.length) := by omega
      obtain ⟨ad, rfl, hc⟩ := src_at HS.out hx
      have HX := hide (HM.out x (List.mem_of_getElem? hx))
      cases hp : p x with
      | false =>
        rw [hp] at HX
        have HV : Hid (∀ y ∈ l.take (i + 1), p y = false) := by
          intro y hy
          rw [List.take_add_one, hx] at hy
          rcases List.mem_append.1 hy with h | h
          · exact hall y h
          · have : y = x := by simpa using h
            rw [this]; exact hp
        clear hall
        go_wp2_with ((with_reducible refine HX.out.mono ?_); rintro e w' ⟨rfl, rfl⟩)
        go_round
        case rel => exact ⟨i + 1, by go_num, by omega, HV.out⟩
        case measure => simp [intOf]; omega
      | true =>
        rw [hp] at HX
        have HV := hide (idxOf_at hx hp hall)
        clear hall
        go_wp2_with ((with_reducible refine HX.out.mono ?_); rintro e w' ⟨rfl, rfl⟩)
        go_ret
        exact ⟨by rw [HV.out]; rfl, rfl⟩
    · have e : i = l.length := by omega
      have d1 : decide (i < l.length) = false := by simp; omega
      subst e
      have HV := hide (idxOf_none (p := p) (l := l) (by simpa using hall))
      clear hall
      go_wp2_with fail
      go_ret
      exact ⟨by rw [HV.out]; rfl, rfl⟩
set_option maxRecDepth 100000 in
theorem containsFunc_any (A : Option Addr) (c : Nat) (l : List Int) (M : FuncId) (caps : Array Value) (p : Int → Bool) (w : World) (hS : Src w A l.length c 1 (l.map encI)) (hn : l.length ≤ maxLen) (hcall : ∀ (xs : Array Value) (w : World), (callFunc M xs).run Try.prog w = .ok (.enter M xs) w)
    (hM : ∀ x ∈ l, Calls Try.prog M (#[.int .i64 x] ++ caps) w fun e w' => e = .returned (.bool (p x)) ∧ w = w') :
    Calls Try.prog 51 #[.slice A l.length c, .func (.func M) #[] caps] w fun e w' => e = .returned (.bool (l.any p)) ∧ w = w' := by
  have HI := hide (indexFunc_any A c l M caps p w hS hn hcall hM)
  have HV := hide (idxOf_any p l)
  clear hS hM hcall
  generalize idxOf p l = v at *
  go_enter Try.func51, Try.ntmps51
  go_wp2_with ((with_reducible refine HI.out.mono ?_); rintro e w' ⟨rfl, rfl⟩)
  go_ret
  exact ⟨by rw [← HV.out]; rfl, rfl⟩
set_option maxHeartbeats 1000000 in
set_option maxRecDepth 100000 in
theorem index_any (A : Option Addr) (c : Nat) (l : List Int) (v : Int) (w : World) (hS : Src w A l.length c 1 (l.map encI)) (hn : l.length ≤ maxLen) :
    Calls Try.prog 31 #[.slice A l.length c, .int .i64 v] w fun e w' => e = .returned (.int .i64 (idxOf (fun x => v == x) l)) ∧ w = w' := by
  have HS := hide hS
  unfold maxLen at hn
  clear hS
  go_enter Try.func31, Try.ntmps31
  go_wp2_with fail
  go_loop [5, 8] (fun _ j => ∃ i : Nat, j = .int .i64 i ∧ i ≤ l.length ∧ ∀ x ∈ l.take i, (v == x) = false) (fun _ j => l.length - (intOf j).toNat)
  case atStart => exact ⟨0, rfl, Nat.zero_le _, by simp⟩
  case round =>
    obtain ⟨i, rfl, hi, hall⟩ := hrel
    rcases Nat.lt_or_ge i l.length with hlt | hge
    · obtain ⟨x, hx⟩ : ∃ x, l[i]? = some x := ⟨_, List.getElem?_eq_getElem hlt⟩
      have d1 : decide (i < l.length) = true := by simpa using hlt
      have d2 : ((i : Int) < l.length) := by omega
      obtain ⟨ad, rfl, hc⟩ := src_at HS.out hx
      cases hp : (v == x) with
      | false =>
        have HV : Hid (∀ y ∈ l.take (i + 1), (v == y) = false) := by
          intro y hy
          rw [List.take_add_one, hx] at hy
          rcases List.mem_append.1 hy with h | h
          · exact hall y h
          · have : y = x := by simpa using h
            rw [this]; exact hp
        clear hall
        go_wp2_with fail
        go_round
        case rel => exact ⟨i + 1, by go_num, by omega, HV.out⟩
        case measure => simp [intOf]; omega
      | true =>
        have HV := hide (idxOf_at (p := fun x => v == x) hx hp hall)
        clear hall
        go_wp2_with fail
        go_ret
        exact ⟨by rw [HV.out]; rfl, rfl⟩
    · have e : i = l.length := by omega
      have d1 : decide (i < l.length) = false := by simp; omega
      subst e
      have HV := hide (idxOf_none (p := fun x => v == x) (l := l) (by simpa using hall))
      clear hall
      go_wp2_with fail
      go_ret
      exact ⟨by rw [HV.out]; rfl, rfl⟩
set_option maxRecDepth 100000 in
theorem contains_any (A : Option Addr) (c : Nat) (l : List Int) (v : Int) (w : World) (hS : Src w A l.length c 1 (l.map encI)) (hn : l.length ≤ maxLen) :
    Calls Try.prog 53 #[.slice A l.length c, .int .i64 v] w fun e w' => e = .returned (.bool (l.any fun x => v == x)) ∧ w = w' := by
  have HI := hide (index_any A c l v w hS hn)
  have HV := hide (idxOf_any (fun x => v == x) l)
  clear hS
  generalize idxOf (fun x => v == x) l = z at *
  go_enter Try.func53, Try.ntmps53
  go_wp2_with ((with_reducible refine HI.out.mono ?_); rintro e w' ⟨rfl, rfl⟩)
  go_ret
  exact ⟨by rw [← HV.out]; rfl, rfl⟩

theorem call_enter {P : Program} {f : FuncId} {fn : Func} (hf : P.funcs[f]? = some fn) (hname : (fn.name == "runtime.NumGoroutine") = false) (hb : fn.body.isSome = true) (xs : Array Value) (w : World) : (callFunc f xs).run P w = .ok (.enter f xs) w := by
  obtain ⟨c, hc⟩ := Option.isSome_iff_exists.1 hb
  have h1 : fn.name ≠ "runtime.NumGoroutine" := by simpa using hname
  simp [callFunc, hf, h1, hc]
/-! ### known -/
def outB (vs : Nat) (x : Int) : Bool := decide (x < 0) || decide ((vs : Int) ≤ x)
def knownB (vs : Nat) (l : List Int) : Bool := !l.any (outB vs)
theorem call_known (xs : Array Value) (w : World) : (callFunc 54 xs).run Try.prog w = .ok (.enter 54 xs) w := by
  exact call_enter Try.func54 (by kernel_rfl) (by kernel_rfl) xs w
set_option maxRecDepth 100000 in
theorem known1_any (k : Blk) (s : St) (x : Int) (b : Nat) (w : World) (hb : w.cell? ⟨b, 0, none⟩ = some (.pointer (some ⟨k.p, 0, none⟩))) (h0 : w.cell? ⟨k.p, 0, none⟩ = some (.int .i64 s.vs)) :
    Calls Try.prog 54 #[.int .i64 x, .pointer (some ⟨b, 0, none⟩)] w fun e w' => e = .returned (.bool (outB s.vs x)) ∧ w = w' := by
  cases d1 : decide (x < 0)
  · cases d2 : decide ((s.vs : Int) ≤ x)
    all_goals (
      have HV := hide (show outB s.vs x = (false || _) from by unfold outB; rw [d1, d2])
      go_enter Try.func54, Try.ntmps54
      go_wp2_with fail
      go_ret
      exact ⟨by rw [HV.out]; rfl, rfl⟩)
  · have HV := hide (show outB s.vs x = true from by unfold outB; rw [d1]; rfl)
    go_enter Try.func54, Try.ntmps54
    go_wp2_with fail
    go_ret
    exact ⟨by rw [HV.out]; rfl, rfl⟩
set_option maxRecDepth 100000 in
theorem known_any (k : Blk) (s : St) (A : Option Addr) (c : Nat) (l : List Int) (w : World) (hA : Ar w k s) (hS : Src w A l.length c 1 (l.map encI)) (hn : l.length ≤ maxLen) :
    Calls Try.prog 36 #[.pointer (some ⟨k.p, 0, none⟩), .slice A l.length c] w fun e w' => e = .returned (.bool (knownB s.vs l)) ∧ Below w.heap.size w w' := by
  obtain ⟨fb, ft, H, I⟩ := hA
  have hbl := bel_one w (.cells #[.pointer (some ⟨k.p, 0, none⟩)] 24)
  have c0 := (H.below hbl).c0
  have hb := cell_heap (j := 0) (heap_new w (.cells #[.pointer (some ⟨k.p, 0, none⟩)] 24)) rfl
  have HC := hide (containsFunc_any A c l 54 #[.pointer (some ⟨w.heap.size, 0, none⟩)] (outB s.vs) _ (hS.below hbl) hn call_known (fun x _ => known1_any k s x w.heap.size _ hb c0))
  have HV := hide (show knownB s.vs l = !(l.any (outB s.vs)) from rfl)
  have HB := hide hbl
  generalize knownB s.vs l = v at *
  generalize l.any (outB s.vs) = z at *
  clear H I hS hbl c0 hb
  go_enter Try.func36, Try.ntmps36
  go_wp2_with ((with_reducible refine HC.out.mono ?_); rintro e w' ⟨rfl, rfl⟩)
  go_ret
  exact ⟨by rw [HV.out]; rfl, HB.out⟩
end Go.Proofs.Ytgfjdkkfgclhjaa.Bd
/- Restrict. -/
namespace Go.Proofs.Ytgfjdkkfgclhjaa.Bd
open Go.RowKit Go.Proofs.Ytgfjdkkfgclhjaa Go.Proofs.Ytgfjdkkfgclhjaa.Lx Go.Maps

theorem call_restrict (xs : Array Value) (w : World) : (callFunc 43 xs).run Try.prog w = .ok (.enter 43 xs) w :=
  call_enter Try.func43 (by kernel_rfl) (by kernel_rfl) xs w
theorem pow_four (n : Nat) : 4 ≤ 2 ^ (n + 2) := by have := Nat.one_le_two_pow (n := n); rw [Nat.pow_succ, Nat.pow_succ]; omega
def resT (i : Nat) (b : Bool) (F : Env → Bool) : Env → Bool := fun ρ => F (upd ρ i b)
def leB (t t' : Nat) : Prop := t ≤ t'
set_option maxHeartbeats 1000000 in
set_option maxRecDepth 100000 in
theorem restrict_made (S : Nat → Bool) (nd0 : List Nd) (k0 : Blk) (w0 : World) (i : Nat) (b : Bool) (b1 b2 b3 : Nat) (hi : i < 256) (c1 : w0.cell? ⟨b1, 0, none⟩ = some (.int .i64 i)) (c2 : w0.cell? ⟨b2, 0, none⟩ = some (.pointer (some ⟨k0.p, 0, none⟩))) (c3 : w0.cell? ⟨b3, 0, none⟩ = some (.bool b)) (n1 : ¬ fp k0 b1) (n2 : ¬ fp k0 b2) (n3 : ¬ fp k0 b3) :
    MadeOK S nd0 (fun _ => S) leB (resT i b) k0 w0 43 #[.pointer (some ⟨b1, 0, none⟩), .pointer (some ⟨b2, 0, none⟩), .pointer (some ⟨b3, 0, none⟩)] := by
  intro k s w v tl th r1 r2 t1 t2 Fl Fh T0 hA hex hv hS h1 h2 l1 d1 l2 d2 i1 i2 hm
  have hp := pow_four (nS S v)
  have e1 := T0.cell c1 n1
  have e2 := T0.cell c2 n2
  have e3 := T0.cell c3 n3
  rw [← T0.p] at e2
  unfold leB at l1 l2
  generalize 2 ^ (nS S v + 2) = R at *
  show Calls Try.prog 43 #[.int .i32 v, .int .i32 r1, .int .i32 r2, .pointer (some ⟨b1, 0, none⟩), .pointer (some ⟨b2, 0, none⟩), .pointer (some ⟨b3, 0, none⟩)] w _
  cases hd : ((v : Int) != i)
  · have hvi : v = i := by have := bne_f hd; omega
    subst hvi
    cases b
    · have HX := hide (show NodeOut k s w R (fun nd' r => ∃ t', leB v t' ∧ Den S nd' r t' (resT v false (fun ρ => if ρ v then Fh ρ else Fl ρ))) (.returned (.int .i32 (r1 : Nat))) w from
        ⟨k, s, r1, rfl, hA, Turn.refl _ _, Up.refl _, by omega, t1, by unfold leB; omega, by
          have e : resT v false (fun ρ => if ρ v then Fh ρ else Fl ρ) = resT v false Fl := by funext ρ; unfold resT; simp only [upd_same, Bool.false_eq_true, if_false]
          rw [e]; exact d1⟩)
      clear hA T0 d1 d2 i1 i2 hex
      go_enter Try.func43, Try.ntmps43
      go_wp2_with fail
      go_ret
      exact HX.out
    · have HX := hide (show NodeOut k s w R (fun nd' r => ∃ t', leB v t' ∧ Den S nd' r t' (resT v true (fun ρ => if ρ v then Fh ρ else Fl ρ))) (.returned (.int .i32 (r2 : Nat))) w from
        ⟨k, s, r2, rfl, hA, Turn.refl _ _, Up.refl _, by omega, t2, by unfold leB; omega, by
          have e : resT v true (fun ρ => if ρ v then Fh ρ else Fl ρ) = resT v true Fh := by funext ρ; unfold resT; simp only [upd_same, if_true]
          rw [e]; exact d2⟩)
      clear hA T0 d1 d2 i1 i2 hex
      go_enter Try.func43, Try.ntmps43
      go_wp2_with fail
      go_ret
      exact HX.out
  · have hvi : v ≠ i := by have := bne_t hd; omega
    have HM := hide (mk_any k s v r1 r2 w hA (by omega) S t1 t2 _ _ d1 d2 (by omega) (by omega) hv hS)
    have HQ : Hid (∀ (e : Ending) (w' : World), (∃ k' s' r, e = .returned (.int .i32 (r : Nat)) ∧ Ar w' k' s' ∧ Turn k k' w w' ∧ Up s s' ∧ s'.m ≤ s.m + 1 ∧ OkMk s.nd s'.nd v r1 r2 r) → ∃ r : Nat, e = .returned (.int .i32 (r : Nat)) ∧ NodeOut k s w R (fun nd' r => ∃ t', leB v t' ∧ Den S nd' r t' (resT i b (fun ρ => if ρ v then Fh ρ else Fl ρ))) (.returned (.int .i32 (r : Nat))) w') := by
      rintro e w' ⟨k', s', r, he, hA', hT', hU', hm', ho⟩
      refine ⟨r, he, k', s', r, rfl, hA', hT', hU', by omega, ?_⟩
      obtain ⟨t', ht, d⟩ := ho S _ _ _ _ hS d1 d2
      have e : resT i b (fun ρ => if ρ v then Fh ρ else Fl ρ) = fun ρ => if ρ v then resT i b Fh ρ else resT i b Fl ρ := by
        funext ρ; unfold resT; simp only [upd_other ρ b hvi]
      exact ⟨t', ht, by rw [e]; exact d⟩
    clear hA T0 d1 d2 i1 i2 hex
    go_enter Try.func43, Try.ntmps43
    go_wp2_with fail
    refine HM.out.mono ?_
    intro e w1 hh
    obtain ⟨r, rfl, hN⟩ := HQ.out e w1 hh
    have HN := hide hN
    clear hN hh
    go_wp2_with fail
    go_ret
    exact HN.out
theorem wrap3 {x : Int} (h : -2147483648 ≤ x) (h2 : x < 2147483648) : IntKind.i32.wrap x = x := by
  simp [IntKind.wrap, IntKind.bits, IntKind.signed, Int.bmod_def]
  omega
theorem cells1 (w : World) (a : Int) : ∀ (j : Nat) (x : Int), [a][j]? = some x → (w.alloc (.cells #[.int .i64 a] 3)).cell? ⟨w.heap.size, j, none⟩ = some (.int .i64 x) := by
  intro j x hx
  refine cell_heap (heap_new _ _) ?_
  match j, hx with
  | 0, hx => simpa using hx
  | j + 1, hx => simp at hx
theorem src1 (w : World) (a : Int) : Src (w.alloc (.cells #[.int .i64 a] 3)) (some ⟨w.heap.size, 0, none⟩) 1 1 1 ([a].map encI) := by
  refine ⟨rfl, .inr ⟨_, rfl, fun j u hu => ?_⟩⟩
  match j, hu with
  | 0, hu => simp at hu; subst hu; exact cell_heap (j := 0) (heap_new _ _) rfl
  | j + 1, hu => simp at hu
theorem box3 (w : World) (a b c : Value) (ta tb tc : TypeId) : Below w.heap.size w (((w.alloc (.cells #[a] ta)).alloc (.cells #[b] tb)).alloc (.cells #[c] tc)) ∧ (((w.alloc (.cells #[a] ta)).alloc (.cells #[b] tb)).alloc (.cells #[c] tc)).heap[w.heap.size]? = some (.cells #[a] ta (0, 0)) ∧ (((w.alloc (.cells #[a] ta)).alloc (.cells #[b] tb)).alloc (.cells #[c] tc)).heap[w.heap.size + 1]? = some (.cells #[b] tb (0, 0)) ∧ (((w.alloc (.cells #[a] ta)).alloc (.cells #[b] tb)).alloc (.cells #[c] tc)).heap[w.heap.size + 1 + 1]? = some (.cells #[c] tc (0, 0)) := by
  refine ⟨((((Below.refl _ w).alloc (Nat.le_refl _) _).alloc (by simp) _).alloc (by simp; omega) _), heap_old (heap_old (heap_new _ _)), ?_, ?_⟩
  · have := heap_new (w.alloc (.cells #[a] ta)) (.cells #[b] tb)
    rw [show (w.alloc (.cells #[a] ta)).heap.size = w.heap.size + 1 by simp] at this
    exact heap_old this
  · have := heap_new ((w.alloc (.cells #[a] ta)).alloc (.cells #[b] tb)) (.cells #[c] tc)
    rw [show ((w.alloc (.cells #[a] ta)).alloc (.cells #[b] tb)).heap.size = w.heap.size + 1 + 1 by simp] at this
    exact this
theorem give_two {k : Blk} {s : St} {r : Nat} {w w' : World} {e : Ending} (h : GiveOut k s r w e w') : ∃ x y : Int, e = .returned (.tuple #[.int .i64 x, .int .i64 y]) ∧ Turn k k w w' := by
  rcases h with ⟨_, h2, _, h4⟩ | ⟨_, h2, _, h4⟩
  · exact ⟨_, _, h2, h4⟩
  · exact ⟨_, _, h2, h4⟩
theorem give_call {k k1 : Blk} {s s1 : St} {r R : Nat} {w : World} {S : Nat → Bool} {G : Env → Bool} {P : Nat → Prop} (hA : Ar w k1 s1) (hr : ∃ t', P t' ∧ Den S s1.nd r t' G) (hm : s1.m + 2 ≤ s.m + R) (hm2 : s.m + R ≤ 1000000000) (U : Up s s1) (ad : Adm s) (hp : k1.p = k.p) :
    Calls Try.prog 37 #[.pointer (some ⟨k.p, 0, none⟩), .int .i32 r] w (GiveOut k1 s1 r w) := by
  obtain ⟨t', _, d⟩ := hr
  rw [← hp]
  exact give_up hA (d.lt hA.wf) (by omega) U ad
theorem api_call {k k1 : Blk} {s s1 : St} {r R : Nat} {w w1 w2 : World} {e : Ending} {S : Nat → Bool} {G : Env → Bool} {P : Nat → Prop} (U : Up s s1) (hm : s1.m + 2 ≤ s.m + R) (ho : ∃ t', P t' ∧ Den S s1.nd r t' G) (T : Turn k k1 w w1) (hw : WF s1.nd) (h : GiveOut k1 s1 r w1 e w2) : ApiOut k s w R (fun nd' r => ∃ t', P t' ∧ Den S nd' r t' G) e w2 := by
  have hr : r < s1.nd.length := by obtain ⟨t', _, d⟩ := ho; exact d.lt hw
  exact api_of U hm ho T hw hr h
set_option maxHeartbeats 2000000 in
set_option maxRecDepth 100000 in
theorem Restrict_any (S : Nat → Bool) (k : Blk) (s : St) (f i t : Nat) (b : Bool) (F : Env → Bool) (w : World) (hA : Ar w k s) (ad : Adm s) (g1 : s.gi f = true) (d : Den S s.nd f t F) (hi : i < s.vs) (hm : s.m + nS S t * 2 ^ (nS S t + 2) + 2 ≤ 1000000000) :
    Calls Try.prog 23 #[.pointer (some ⟨k.p, 0, none⟩), .int .i64 f, .int .i64 i, .bool b] w (ApiOut k s w (nS S t * 2 ^ (nS S t + 2) + 2) (fun nd' r => ∃ t', leB t t' ∧ Den S nd' r t' (resT i b F))) := by
  have hW := hA.wf
  have hnm := hA.nm
  have l1 := d.lt hW
  have hvs := ad.vs
  obtain ⟨hb3, x0, x1, x2⟩ := box3 w (.pointer (some ⟨k.p, 0, none⟩)) (.int .i64 i) (.bool b) 24 3 4
  have HF : Hid (∀ j, w.heap.size ≤ j → ¬ fp k j) := by
    obtain ⟨_, _, H, _⟩ := hA
    exact fun j hj hf => by have := H.lt j hf; omega
  obtain ⟨W, hWd⟩ : ∃ W, W = (((w.alloc (.cells #[.pointer (some ⟨k.p, 0, none⟩)] 24)).alloc (.cells #[.int .i64 i] 3)).alloc (.cells #[.bool b] 4)) := ⟨_, rfl⟩
  rw [← hWd] at hb3 x0 x1 x2
  have hsW : W.heap.size = w.heap.size + 3 := by rw [hWd]; simp
  have hbl := below_wide hb3 (bel_one W (.cells #[.int .i64 f] 3))
  have HC := hide (check_any k s [(f : Int)] W.heap.size _ (hA.below hbl) (cells1 W f) (by simp; omega) (by simp))
  rw [show [(f : Int)].length = 1 from rfl, gvn_all (s := s) (l := [(f : Int)]) (by simp [g1]), hsW] at HC
  have hbl2 := below_wide hbl (bel_one (W.alloc (.cells #[.int .i64 f] 3)) (.cells #[.int .i64 i] 3))
  have HK := hide (known_any k s _ 1 [(i : Int)] _ (hA.below hbl2) (src1 _ _) (by simp [maxLen]))
  rw [show [(i : Int)].length = 1 from rfl, show knownB s.vs [(i : Int)] = true by (unfold knownB outB; simp; omega), show (W.alloc (.cells #[.int .i64 f] 3)).heap.size = w.heap.size + 3 + 1 by simp [hsW]] at HK
  have y0 : (W.alloc (.cells #[.int .i64 f] 3)).cell? ⟨w.heap.size, 0, none⟩ = some (.pointer (some ⟨k.p, 0, none⟩)) := cell_heap (heap_old x0) rfl
  have y1 : (W.alloc (.cells #[.int .i64 f] 3)).cell? ⟨w.heap.size + 1, 0, none⟩ = some (.int .i64 i) := cell_heap (heap_old x1) rfl
  have HBL2 := hide hbl2
  have HA := hide hA
  have HD := hide d
  have HAD := hide ad
  have HX0 := hide (heap_old (p := .cells #[.int .i64 i] 3) (heap_old (p := .cells #[.int .i64 f] 3) x0))
  have HX1 := hide (heap_old (p := .cells #[.int .i64 i] 3) (heap_old (p := .cells #[.int .i64 f] 3) x1))
  have HX2 := hide (heap_old (p := .cells #[.int .i64 i] 3) (heap_old (p := .cells #[.int .i64 f] 3) x2))
  have HS := hide hsW
  have y9 : W.cell? ⟨w.heap.size, 0, none⟩ = some (.pointer (some ⟨k.p, 0, none⟩)) := cell_heap x0 rfl
  generalize hR : nS S t * 2 ^ (nS S t + 2) + 2 = R at *
  have HR := hide hR
  clear hA g1 d hbl hbl2 ad hb3 x0 x1 x2 hsW hR
  subst hWd
  go_enter Try.func23, Try.ntmps23
  go_wp2_with fail
  refine HC.out.mono ?_
  rintro e w1 ⟨rfl, rfl⟩
  go_wp2_with fail
  refine HK.out.mono ?_
  rintro e w2 ⟨rfl, hb⟩
  have z0 := heapB hb HX0.out
  have z1 := heapB hb HX1.out
  have z2 := heapB hb HX2.out
  have hb2 := (below_wide HBL2.out hb).drew
  have hA2 := HA.out.below hb2
  have k2 : w2.drew.cell? ⟨w.heap.size, 0, none⟩ = some (.pointer (some ⟨k.p, 0, none⟩)) := cell_heap z0 rfl
  have HE := hide (each_any S (fun _ => S) leB (resT i b) k s _ _ f t F w2.drew hA2 HD.out (restrict_made S s.nd k _ i b (w.heap.size + 1) w.heap.size (w.heap.size + 1 + 1) (by omega) (cell_heap z1 rfl) k2 (cell_heap z2 rfl) (HF.out _ (by omega)) (HF.out _ (by omega)) (HF.out _ (by omega))) call_restrict (Nat.le_refl _) (by funext ρ; rfl) (by funext ρ; rfl) (by have := HR.out; omega))
  rw [HR.out] at HE
  have hmR : s.m + R ≤ 1000000000 := by have := HR.out; omega
  have HB2 := hide hb2
  have hnf := HF.out w.heap.size (by omega)
  have hlt : w.heap.size < w2.drew.heap.size := lt_of_cell k2
  clear hb hA2 z0 z1 z2 HX0 HX1 HX2 HC HK y0 y1 y9 hb2
  have hwr : IntKind.i32.wrap (f : Int) = f := wrap3 (by omega) (by omega)
  go_wp2_with fail
  go_region_held3 (fun w' => w'.cell? ⟨w.heap.size, 0, none⟩ = some (.pointer (some ⟨k.p, 0, none⟩)))
    (first | exact k2 | exact k3 | exact k4)
    (first
      | (go_at_call 38; (with_reducible refine HE.out.mono ?_); intro e w3 hh; unfold NodeOut at hh; obtain ⟨k1, s1, r, he, hA3, T3, U3, m3, o3⟩ := hh; subst he; have k3 := T3.cell k2 hnf; have HA3 := hide hA3; have HT3 := hide T3; have HU3 := hide U3; have HM3 := hide m3; have HO3 := hide o3; clear hA3 T3 U3 m3 o3)
      | (go_at_call 37; (with_reducible refine (give_call HA3.out HO3.out HM3.out hmR HU3.out HAD.out HT3.out.p).mono ?_); intro e w4 hg; obtain ⟨x, y, he, T4⟩ := give_two hg; subst he; have k4 := T4.cell k3 (HT3.out.fpn hlt hnf); have HX := hide (api_call HU3.out HM3.out HO3.out ((Turn.below (k := k) HB2.out).trans HT3.out) HA3.out.wf hg); clear hg T4))
  all_goals (
    go_wp2_with fail
    go_ret2
    exact HX.out)
end Go.Proofs.Ytgfjdkkfgclhjaa.Bd
/- Some and all over variables, in plain words. No program is in sight. -/
namespace Go.Proofs.Ytgfjdkkfgclhjaa.Bd

/-- F with both values of x, joined -/
def quant (J : Bool → Bool → Bool) (x : Nat) (F : Env → Bool) : Env → Bool := fun ρ => J (F (upd ρ x false)) (F (upd ρ x true))
/-- .. of the variables of O, n of them from a on -/
def ovF (J : Bool → Bool → Bool) (O : Nat → Bool) : Nat → Nat → (Env → Bool) → Env → Bool
  | _, 0, F => F
  | a, n + 1, F => ovF J O (a + 1) n (if O a then quant J a F else F)
def overT (J : Bool → Bool → Bool) (O : Nat → Bool) (F : Env → Bool) : Env → Bool := ovF J O 0 256 F
/-- what is asked of J -/
structure Joins (J : Bool → Bool → Bool) : Prop where
  idem : ∀ a, J a a = a
  swap : ∀ a b c d, J (J a b) (J c d) = J (J a c) (J b d)
theorem joins_or : Joins (fun a b => a || b) := ⟨by decide, by decide⟩
theorem joins_and : Joins (fun a b => a && b) := ⟨by decide, by decide⟩
theorem upd_swap (ρ : Env) {x y : Nat} (a b : Bool) (h : x ≠ y) : upd (upd ρ x a) y b = upd (upd ρ y b) x a := by
  funext z
  unfold upd
  by_cases h1 : z = y
  · subst h1
    rw [if_pos rfl, if_neg (Ne.symm h), if_pos rfl]
  · rw [if_neg h1]
    by_cases h2 : z = x
    · rw [if_pos h2, if_pos h2]
    · rw [if_neg h2, if_neg h2, if_neg h1]
theorem upd_twice (ρ : Env) (x : Nat) (a b : Bool) : upd (upd ρ x a) x b = upd ρ x b := by
  funext z
  unfold upd
  by_cases h : z = x <;> simp [h]
section
variable {J : Bool → Bool → Bool} (hJ : Joins J)
include hJ
theorem quant_free {x : Nat} {F : Env → Bool} (h : ∀ ρ b, F (upd ρ x b) = F ρ) : quant J x F = F := by
  funext ρ
  unfold quant
  rw [h, h, hJ.idem]
theorem quant_join (x : Nat) (G H : Env → Bool) : quant J x (fun ρ => J (G ρ) (H ρ)) = fun ρ => J (quant J x G ρ) (quant J x H ρ) := by
  funext ρ
  unfold quant
  exact hJ.swap _ _ _ _
omit hJ in
theorem quant_if {x v : Nat} (h : x ≠ v) (G H : Env → Bool) : quant J x (fun ρ => if ρ v then H ρ else G ρ) = fun ρ => if ρ v then quant J x H ρ else quant J x G ρ := by
  funext ρ
  unfold quant
  simp only [upd_other _ _ (Ne.symm h)]
  cases ρ v <;> simp
theorem quant_same (x : Nat) (F : Env → Bool) : quant J x (quant J x F) = quant J x F := by
  funext ρ
  unfold quant
  simp only [upd_twice, hJ.idem]
theorem quant_comm (x y : Nat) (F : Env → Bool) : quant J x (quant J y F) = quant J y (quant J x F) := by
  by_cases h : x = y
  · subst h; rfl
  · funext ρ
    unfold quant
    rw [hJ.swap]
    simp only [upd_swap ρ _ _ h]
omit hJ in
theorem quant_still {x y : Nat} {F : Env → Bool} (h : ∀ ρ b, F (upd ρ y b) = F ρ) : ∀ ρ b, quant J x F (upd ρ y b) = quant J x F ρ := by
  intro ρ b
  unfold quant
  by_cases e : x = y
  · subst e; simp only [upd_twice]
  · simp only [upd_swap ρ b _ (Ne.symm e), h]
theorem ovF_free {O : Nat → Bool} : ∀ (n a : Nat) (F : Env → Bool), (∀ x, a ≤ x → x < a + n → ∀ ρ b, F (upd ρ x b) = F ρ) → ovF J O a n F = F := by
  intro n
  induction n with
  | zero => intro a F _; rfl
  | succ n ih =>
    intro a F h
    unfold ovF
    have e : (if O a then quant J a F else F) = F := by
      split
      · exact quant_free hJ (h a (Nat.le_refl _) (by omega))
      · rfl
    rw [e]
    exact ih (a + 1) F (fun x h1 h2 => h x (by omega) (by omega))
theorem ovF_join {O : Nat → Bool} : ∀ (n a : Nat) (G H : Env → Bool), ovF J O a n (fun ρ => J (G ρ) (H ρ)) = fun ρ => J (ovF J O a n G ρ) (ovF J O a n H ρ) := by
  intro n
  induction n with
  | zero => intro a G H; rfl
  | succ n ih =>
    intro a G H
    unfold ovF
    by_cases h : O a = true
    · rw [if_pos h, if_pos h, if_pos h, quant_join hJ, ih]
    · rw [if_neg h, if_neg h, if_neg h, ih]
omit hJ in
theorem ovF_if {O : Nat → Bool} {v : Nat} : ∀ (n a : Nat) (G H : Env → Bool), (v < a ∨ a + n ≤ v) → ovF J O a n (fun ρ => if ρ v then H ρ else G ρ) = fun ρ => if ρ v then ovF J O a n H ρ else ovF J O a n G ρ := by
  intro n
  induction n with
  | zero => intro a G H _; rfl
  | succ n ih =>
    intro a G H h
    unfold ovF
    by_cases h1 : O a = true
    · rw [if_pos h1, if_pos h1, if_pos h1, quant_if (by omega), ih _ _ _ (by omega)]
    · rw [if_neg h1, if_neg h1, if_neg h1, ih _ _ _ (by omega)]
omit hJ in
theorem ovF_add {O : Nat → Bool} : ∀ (m n a : Nat) (F : Env → Bool), ovF J O a (m + n) F = ovF J O (a + m) n (ovF J O a m F) := by
  intro m
  induction m with
  | zero => intro n a F; simp [ovF]
  | succ m ih =>
    intro n a F
    have e1 : ovF J O a (m + 1 + n) F = ovF J O (a + 1) (m + n) (if O a then quant J a F else F) := by rw [show m + 1 + n = (m + n) + 1 by omega]; rfl
    have e2 : ovF J O a (m + 1) F = ovF J O (a + 1) m (if O a then quant J a F else F) := rfl
    rw [e1, e2, ih, show a + 1 + m = a + (m + 1) by omega]
theorem overT_free {O : Nat → Bool} {F : Env → Bool} (h : ∀ ρ ρ' : Env, F ρ = F ρ') : overT J O F = F := ovF_free hJ 256 0 F (fun _ _ _ _ _ => h _ _)
/-- .. at a node whose halves stand behind v -/
theorem overT_node {O : Nat → Bool} {v : Nat} (hv : v < 256) {Fl Fh : Env → Bool} (hl : ∀ ρ ρ' : Env, (∀ x, v < x → x < 256 → ρ x = ρ' x) → Fl ρ = Fl ρ') (hh : ∀ ρ ρ' : Env, (∀ x, v < x → x < 256 → ρ x = ρ' x) → Fh ρ = Fh ρ') :
    overT J O (fun ρ => if ρ v then Fh ρ else Fl ρ) = if O v then fun ρ => J (overT J O Fl ρ) (overT J O Fh ρ) else fun ρ => if ρ v then overT J O Fh ρ else overT J O Fl ρ := by
  have fl : ∀ x, x ≤ v → ∀ ρ b, Fl (upd ρ x b) = Fl ρ := fun x hx ρ b => hl _ _ (fun y h1 h2 => upd_other _ _ (by omega))
  have fh : ∀ x, x ≤ v → ∀ ρ b, Fh (upd ρ x b) = Fh ρ := fun x hx ρ b => hh _ _ (fun y h1 h2 => upd_other _ _ (by omega))
  have sp : ∀ G : Env → Bool, overT J O G = ovF J O (v + 1) (255 - v) (ovF J O v 1 (ovF J O 0 v G)) := by
    intro G
    have a1 := ovF_add (J := J) (O := O) v (1 + (255 - v)) 0 G
    have a2 := ovF_add (J := J) (O := O) 1 (255 - v) v (ovF J O 0 v G)
    unfold overT
    rw [show 256 = v + (1 + (255 - v)) by omega, a1, Nat.zero_add, a2]
  have one : ∀ G : Env → Bool, ovF J O v 1 G = if O v then quant J v G else G := fun G => rfl
  have kl : ovF J O 0 v Fl = Fl := ovF_free hJ v 0 Fl (fun x _ h2 => fl x (by omega))
  have kh : ovF J O 0 v Fh = Fh := ovF_free hJ v 0 Fh (fun x _ h2 => fh x (by omega))
  have tl : overT J O Fl = ovF J O (v + 1) (255 - v) Fl := by
    rw [sp, kl, one]
    split
    · rw [quant_free hJ (fl v (Nat.le_refl _))]
    · rfl
  have th : overT J O Fh = ovF J O (v + 1) (255 - v) Fh := by
    rw [sp, kh, one]
    split
    · rw [quant_free hJ (fh v (Nat.le_refl _))]
    · rfl
  rw [sp, ovF_if v 0 _ _ (.inr (by omega)), kl, kh, one, tl, th]
  by_cases h : O v = true
  · rw [if_pos h, if_pos h]
    have e : quant J v (fun ρ => if ρ v then Fh ρ else Fl ρ) = fun ρ => J (Fl ρ) (Fh ρ) := by
      funext ρ
      unfold quant
      simp only [upd_same, Bool.false_eq_true, if_false, if_true, fl v (Nat.le_refl _), fh v (Nat.le_refl _)]
    rw [e, ovF_join hJ]
  · rw [if_neg h, if_neg h, ovF_if _ _ _ _ (.inl (by omega))]
/-- one variable more -/
theorem ovF_quant {O : Nat → Bool} (x : Nat) : ∀ (n a : Nat) (F : Env → Bool), ovF J O a n (quant J x F) = quant J x (ovF J O a n F) := by
  intro n
  induction n with
  | zero => intro a F; rfl
  | succ n ih =>
    intro a F
    unfold ovF
    by_cases h : O a = true
    · rw [if_pos h, if_pos h, quant_comm hJ, ih]
    · rw [if_neg h, if_neg h, ih]
omit hJ in
theorem ovF_out {O O' : Nat → Bool} : ∀ (n a : Nat) (F : Env → Bool), (∀ y, a ≤ y → y < a + n → O y = O' y) → ovF J O a n F = ovF J O' a n F := by
  intro n
  induction n with
  | zero => intro a F _; rfl
  | succ n ih =>
    intro a F h
    unfold ovF
    rw [h a (Nat.le_refl _) (by omega), ih _ _ (fun y h1 h2 => h y (by omega) (by omega))]
theorem overT_put {O : Nat → Bool} {x : Nat} (hx : x < 256) (F : Env → Bool) : overT J (fun y => decide (y = x) || O y) F = quant J x (overT J O F) := by
  have sp : ∀ (O : Nat → Bool) (G : Env → Bool), overT J O G = ovF J O (x + 1) (255 - x) (ovF J O x 1 (ovF J O 0 x G)) := by
    intro O G
    have a1 := ovF_add (J := J) (O := O) x (1 + (255 - x)) 0 G
    have a2 := ovF_add (J := J) (O := O) 1 (255 - x) x (ovF J O 0 x G)
    unfold overT
    rw [show 256 = x + (1 + (255 - x)) by omega, a1, Nat.zero_add, a2]
  rw [sp, sp O F]
  have one : ∀ (O : Nat → Bool) (G : Env → Bool), ovF J O x 1 G = if O x then quant J x G else G := fun _ G => rfl
  rw [ovF_out (O := fun y => decide (y = x) || O y) (O' := O) x 0 F (fun y _ h => by simp; omega), ovF_out (O := fun y => decide (y = x) || O y) (O' := O) (255 - x) (x + 1) _ (fun y h _ => by simp; omega), one, one]
  simp only [decide_true, Bool.true_or, if_true]
  rw [ovF_quant hJ]
  split
  · rw [ovF_quant hJ, quant_same hJ]
  · rfl
omit hJ in
theorem overT_none (F : Env → Bool) : overT J (fun _ => false) F = F := by
  have : ∀ n a, ovF J (fun _ => false) a n F = F := by
    intro n
    induction n with
    | zero => intro a; rfl
    | succ n ih => intro a; unfold ovF; simp [ih]
  exact this 256 0
end
end Go.Proofs.Ytgfjdkkfgclhjaa.Bd
/- over, Exists, Forall. -/
namespace Go.Proofs.Ytgfjdkkfgclhjaa.Bd
open Go.RowKit Go.Proofs.Ytgfjdkkfgclhjaa Go.Proofs.Ytgfjdkkfgclhjaa.Lx Go.Maps

/-- what is asked of a function that joins two parts -/
def JoinOK (S : Nat → Bool) (J : Bool → Bool → Bool) (k0 : Blk) (w0 : World) (M : FuncId) (caps : Array Value) : Prop :=
  ∀ (k : Blk) (s : St) (w : World) (r1 r2 t1 t2 : Nat) (G H : Env → Bool), Turn k0 k w0 w → Ar w k s → Den S s.nd r1 t1 G → Den S s.nd r2 t2 H → s.m + 2 ^ (nS S (min t1 t2) + 1) ≤ 1000000000 →
    Calls Try.prog M (#[.int .i32 r1, .int .i32 r2] ++ caps) w (NodeOut k s w (2 ^ (nS S (min t1 t2) + 1)) (fun nd' r => ∃ t', min t1 t2 ≤ t' ∧ Den S nd' r t' (fun ρ => J (G ρ) (H ρ))))
theorem JoinOK.turn {S : Nat → Bool} {J : Bool → Bool → Bool} {k0 k1 : Blk} {w0 w1 : World} {M : FuncId} {caps : Array Value} (h : JoinOK S J k0 w0 M caps) (T : Turn k0 k1 w0 w1) : JoinOK S J k1 w1 M caps :=
  fun k s w r1 r2 t1 t2 G H T1 => h k s w r1 r2 t1 t2 G H (T.trans T1)
theorem call_exists (xs : Array Value) (w : World) : (callFunc 45 xs).run Try.prog w = .ok (.enter 45 xs) w :=
  call_enter Try.func45 (by kernel_rfl) (by kernel_rfl) xs w
theorem call_forall (xs : Array Value) (w : World) : (callFunc 46 xs).run Try.prog w = .ok (.enter 46 xs) w :=
  call_enter Try.func46 (by kernel_rfl) (by kernel_rfl) xs w
theorem call_over (xs : Array Value) (w : World) : (callFunc 58 xs).run Try.prog w = .ok (.enter 58 xs) w :=
  call_enter Try.func58 (by kernel_rfl) (by kernel_rfl) xs w
set_option maxRecDepth 100000 in
theorem exists_join (S : Nat → Bool) (k0 : Blk) (w0 : World) (b : Nat) (c : w0.cell? ⟨b, 0, none⟩ = some (.pointer (some ⟨k0.p, 0, none⟩))) (n : ¬ fp k0 b) : JoinOK S (fun a b => a || b) k0 w0 45 #[.pointer (some ⟨b, 0, none⟩)] := by
  intro k s w r1 r2 t1 t2 G H T hA d1 d2 hm
  have e1 := T.cell c n
  rw [← T.p] at e1
  have h1 := d1.top.1
  have h2 := d2.top.1
  have et : min t1 (min 256 t2) = min t1 t2 := by omega
  have HI := hide (ite_any S k s r1 1 r2 t1 256 t2 G _ H w hA d1 .one d2 (by rw [et]; exact hm))
  rw [et] at HI
  have HQ : Hid (∀ (e : Ending) (w' : World), NodeOut k s w (2 ^ (nS S (min t1 t2) + 1)) (fun nd' r => OkIte s.nd nd' r1 1 r2 r) e w' → ∃ r : Nat, e = .returned (.int .i32 (r : Nat)) ∧ NodeOut k s w (2 ^ (nS S (min t1 t2) + 1)) (fun nd' r => ∃ t', min t1 t2 ≤ t' ∧ Den S nd' r t' (fun ρ => G ρ || H ρ)) (.returned (.int .i32 (r : Nat))) w') := by
    rintro e w' ⟨k', s', r, he, hA', hT', hU', hm', ho⟩
    refine ⟨r, he, k', s', r, rfl, hA', hT', hU', hm', ?_⟩
    obtain ⟨t', ht, d⟩ := ho S _ _ _ _ _ _ d1 .one d2
    have e : (fun ρ => G ρ || H ρ) = fun ρ => if G ρ then true else H ρ := by funext ρ; cases G ρ <;> simp
    exact ⟨t', by omega, by rw [e]; exact d⟩
  clear hA T d1 d2 hm
  show Calls Try.prog 45 #[.int .i32 r1, .int .i32 r2, .pointer (some ⟨b, 0, none⟩)] w _
  generalize 2 ^ (nS S (min t1 t2) + 1) = R at *
  go_enter Try.func45, Try.ntmps45
  go_wp2_with fail
  refine HI.out.mono ?_
  intro e w1 hh
  obtain ⟨r, rfl, hN⟩ := HQ.out e w1 hh
  have HN := hide hN
  clear hN hh
  go_wp2_with fail
  go_ret
  exact HN.out
set_option maxRecDepth 100000 in
theorem forall_join (S : Nat → Bool) (k0 : Blk) (w0 : World) (b : Nat) (c : w0.cell? ⟨b, 0, none⟩ = some (.pointer (some ⟨k0.p, 0, none⟩))) (n : ¬ fp k0 b) : JoinOK S (fun a b => a && b) k0 w0 46 #[.pointer (some ⟨b, 0, none⟩)] := by
  intro k s w r1 r2 t1 t2 G H T hA d1 d2 hm
  have e1 := T.cell c n
  rw [← T.p] at e1
  have h1 := d1.top.1
  have h2 := d2.top.1
  have et : min t1 (min t2 256) = min t1 t2 := by omega
  have HI := hide (ite_any S k s r1 r2 0 t1 t2 256 G H _ w hA d1 d2 .zero (by rw [et]; exact hm))
  rw [et] at HI
  have HQ : Hid (∀ (e : Ending) (w' : World), NodeOut k s w (2 ^ (nS S (min t1 t2) + 1)) (fun nd' r => OkIte s.nd nd' r1 r2 0 r) e w' → ∃ r : Nat, e = .returned (.int .i32 (r : Nat)) ∧ NodeOut k s w (2 ^ (nS S (min t1 t2) + 1)) (fun nd' r => ∃ t', min t1 t2 ≤ t' ∧ Den S nd' r t' (fun ρ => G ρ && H ρ)) (.returned (.int .i32 (r : Nat))) w') := by
    rintro e w' ⟨k', s', r, he, hA', hT', hU', hm', ho⟩
    refine ⟨r, he, k', s', r, rfl, hA', hT', hU', hm', ?_⟩
    obtain ⟨t', ht, d⟩ := ho S _ _ _ _ _ _ d1 d2 .zero
    have e : (fun ρ => G ρ && H ρ) = fun ρ => if G ρ then H ρ else false := by funext ρ; cases G ρ <;> simp
    exact ⟨t', by omega, by rw [e]; exact d⟩
  clear hA T d1 d2 hm
  show Calls Try.prog 46 #[.int .i32 r1, .int .i32 r2, .pointer (some ⟨b, 0, none⟩)] w _
  generalize 2 ^ (nS S (min t1 t2) + 1) = R at *
  go_enter Try.func46, Try.ntmps46
  go_wp2_with fail
  refine HI.out.mono ?_
  intro e w1 hh
  obtain ⟨r, rfl, hN⟩ := HQ.out e w1 hh
  have HN := hide hN
  clear hN hh
  go_wp2_with fail
  go_ret
  exact HN.out
/-- the array of 256 bools -/
def Flags (w : World) (b : Nat) (O : Nat → Bool) : Prop := ∃ cur : Array Value, w.heap[b]? = some (.cells cur 95 (0, 0)) ∧ ∀ j, j < 256 → cur[j]? = some (.bool (O j))
theorem Flags.cell {w : World} {b : Nat} {O : Nat → Bool} (h : Flags w b O) {j : Nat} (hj : j < 256) : w.cell? ⟨b, j, none⟩ = some (.bool (O j)) := by
  obtain ⟨cur, h1, h2⟩ := h
  exact cell_heap h1 (h2 j hj)
theorem Flags.put {w : World} {b : Nat} {O : Nat → Bool} (h : Flags w b O) {x : Nat} : Flags (w.setCell ⟨b, x, none⟩ (.bool true)) b (fun y => decide (y = x) || O y) := by
  obtain ⟨cur, h1, h2⟩ := h
  refine ⟨cur.setIfInBounds x (.bool true), heap_set h1, fun j hj => ?_⟩
  have := h2 j hj
  by_cases e : j = x
  · subst e
    have hlt : j < cur.size := by
      rcases Nat.lt_or_ge j cur.size with h' | h'
      · exact h'
      · rw [Array.getElem?_eq_none h'] at this; cases this
    simp [Array.getElem?_setIfInBounds, hlt]
  · rw [Array.getElem?_setIfInBounds_ne (Ne.symm e), this]
    simp [e]
theorem Flags.kept {w w' : World} {b : Nat} {O : Nat → Bool} (h : Flags w b O) (hb : w'.heap[b]? = w.heap[b]?) : Flags w' b O := by
  obtain ⟨cur, h1, h2⟩ := h
  exact ⟨cur, hb.trans h1, h2⟩

set_option maxHeartbeats 2000000 in
set_option maxRecDepth 100000 in
theorem over_made (S : Nat → Bool) (J : Bool → Bool → Bool) (hJ : Joins J) (O : Nat → Bool) (nd0 : List Nd) (k0 : Blk) (w0 : World) (M : FuncId) (caps : Array Value) (b1 b2 b3 : Nat) (hcall : ∀ (xs : Array Value) (w : World), (callFunc M xs).run Try.prog w = .ok (.enter M xs) w) (hF : Flags w0 b1 O) (c2 : w0.cell? ⟨b2, 0, none⟩ = some (.func (.func M) #[] caps)) (c3 : w0.cell? ⟨b3, 0, none⟩ = some (.pointer (some ⟨k0.p, 0, none⟩)))
    (n1 : ¬ fp k0 b1) (n2 : ¬ fp k0 b2) (n3 : ¬ fp k0 b3) (HJ : JoinOK S J k0 w0 M caps) :
    MadeOK S nd0 (fun _ => S) leB (overT J O) k0 w0 58 #[.pointer (some ⟨b1, 0, none⟩), .pointer (some ⟨b2, 0, none⟩), .pointer (some ⟨b3, 0, none⟩)] := by
  intro k s w v tl th r1 r2 t1 t2 Fl Fh T0 hA hex hv hS h1 h2 l1 d1 l2 d2 i1 i2 hm
  have hp := pow_four (nS S v)
  have lt1 : b1 < w0.heap.size := lt_of_cell (hF.cell (j := 0) (by omega))
  have e1 := (hF.kept (T0.block _ lt1 n1)).cell hv
  have e2 := T0.cell c2 n2
  have e3 := T0.cell c3 n3
  rw [← T0.p] at e3
  unfold leB at l1 l2
  have eT := overT_node hJ (O := O) hv i1 i2
  show Calls Try.prog 58 #[.int .i32 v, .int .i32 r1, .int .i32 r2, .pointer (some ⟨b1, 0, none⟩), .pointer (some ⟨b2, 0, none⟩), .pointer (some ⟨b3, 0, none⟩)] w _
  rw [eT]
  cases hO : O v
  · simp only [Bool.false_eq_true, if_false]
    rw [hO] at e1
    have HM := hide (mk_any k s v r1 r2 w hA (by omega) S t1 t2 _ _ d1 d2 (by omega) (by omega) hv hS)
    generalize 2 ^ (nS S v + 2) = R at *
    have HQ : Hid (∀ (e : Ending) (w' : World), (∃ k' s' r, e = .returned (.int .i32 (r : Nat)) ∧ Ar w' k' s' ∧ Turn k k' w w' ∧ Up s s' ∧ s'.m ≤ s.m + 1 ∧ OkMk s.nd s'.nd v r1 r2 r) → ∃ r : Nat, e = .returned (.int .i32 (r : Nat)) ∧ NodeOut k s w R (fun nd' r => ∃ t', leB v t' ∧ Den S nd' r t' (fun ρ => if ρ v then overT J O Fh ρ else overT J O Fl ρ)) (.returned (.int .i32 (r : Nat))) w') := by
      rintro e w' ⟨k', s', r, he, hA', hT', hU', hm', ho⟩
      refine ⟨r, he, k', s', r, rfl, hA', hT', hU', by omega, ?_⟩
      obtain ⟨t', ht, d⟩ := ho S _ _ _ _ hS d1 d2
      exact ⟨t', ht, d⟩
    clear hA T0 d1 d2 i1 i2 hex hF HJ eT hcall e2
    go_enter Try.func58, Try.ntmps58
    go_wp2_with fail
    refine HM.out.mono ?_
    intro e w1 hh
    obtain ⟨r, rfl, hN⟩ := HQ.out e w1 hh
    have HN := hide hN
    clear hN hh
    go_wp2_with fail
    go_ret
    exact HN.out
  · simp only [if_true]
    rw [hO] at e1
    have hst := nS_step S hv
    rw [hS, if_pos rfl] at hst
    have hle := nS_le S (show v + 1 ≤ min t1 t2 by omega)
    have hpw : 2 ^ (nS S (min t1 t2) + 1) ≤ 2 ^ (nS S v + 2) := Nat.pow_le_pow_right (by omega) (by omega)
    have HM := hide (HJ k s w r1 r2 t1 t2 _ _ T0 hA d1 d2 (by omega))
    generalize 2 ^ (nS S v + 2) = R at *
    generalize 2 ^ (nS S (min t1 t2) + 1) = R2 at *
    have HQ : Hid (∀ (e : Ending) (w' : World), NodeOut k s w R2 (fun nd' r => ∃ t', min t1 t2 ≤ t' ∧ Den S nd' r t' (fun ρ => J (overT J O Fl ρ) (overT J O Fh ρ))) e w' → ∃ r : Nat, e = .returned (.int .i32 (r : Nat)) ∧ NodeOut k s w R (fun nd' r => ∃ t', leB v t' ∧ Den S nd' r t' (fun ρ => J (overT J O Fl ρ) (overT J O Fh ρ))) (.returned (.int .i32 (r : Nat))) w') := by
      rintro e w' ⟨k', s', r, he, hA', hT', hU', hm', t', ht, d⟩
      exact ⟨r, he, k', s', r, rfl, hA', hT', hU', by omega, t', by unfold leB; omega, d⟩
    clear hA T0 d1 d2 i1 i2 hex hF HJ eT e3
    go_enter Try.func58, Try.ntmps58
    go_wp2_with ((with_reducible refine HM.out.mono ?_); intro e w1 hh; obtain ⟨r, he, hN⟩ := HQ.out e w1 hh; subst he; have HN := hide hN; clear hN hh)
    go_ret
    exact HN.out
end Go.Proofs.Ytgfjdkkfgclhjaa.Bd
/- over, whole; Exists, Forall. -/
namespace Go.Proofs.Ytgfjdkkfgclhjaa.Bd
open Go.RowKit Go.Proofs.Ytgfjdkkfgclhjaa Go.Proofs.Ytgfjdkkfgclhjaa.Lx Go.Maps

def encL (l : List Nat) : List Int := l.map fun (x : Nat) => (x : Int)
theorem encL_len (l : List Nat) : (encL l).length = l.length := by simp [encL]
theorem knownB_of {vs : Nat} {l : List Nat} (h : ∀ x ∈ l, x < vs) : knownB vs (encL l) = true := by
  unfold knownB
  rw [Bool.not_eq_true', List.any_eq_false]
  intro x hx
  obtain ⟨y, hy, rfl⟩ := List.mem_map.1 hx
  have := h y hy
  unfold outB
  simp
  omega
def memB (l : List Nat) : Nat → Bool := fun y => decide (y ∈ l)
theorem memB_next {l : List Nat} {i x : Nat} (hx : l[i]? = some x) : (fun y => decide (y = x) || memB (l.take i) y) = memB (l.take (i + 1)) := by
  funext y
  unfold memB
  rw [List.take_add_one, hx, ← Bool.decide_or]
  congr 1
  simp only [Option.toList_some, List.mem_append, List.mem_singleton, eq_iff_iff]
  constructor
  · rintro (h | h)
    · exact .inr h
    · exact .inl h
  · rintro (h | h)
    · exact .inr h
    · exact .inl h
theorem api_two {k : Blk} {s : St} {w w1 w2 : World} {R : Nat} {ok : List Nd → Nat → Prop} {e : Ending} (h : ApiOut k s w1 R ok e w2) (hb : Below w.heap.size w w1) : ∃ x y : Int, e = .returned (.tuple #[.int .i64 x, .int .i64 y]) ∧ ApiOut k s w R ok e w2 := by
  obtain ⟨k', s1, r, h1, h2, h3, h4, h5, h6, h7⟩ := h
  have hx : ApiOut k s w R ok e w2 := ⟨k', s1, r, h1, h2, h3, (Turn.below hb).trans h4, h5, h6, h7⟩
  rcases h7 with ⟨_, h8, _⟩ | ⟨_, h8, _⟩
  · exact ⟨_, _, h8, hx⟩
  · exact ⟨_, _, h8, hx⟩
theorem box2 (w : World) (a b : Value) (ta tb : TypeId) : Below w.heap.size w ((w.alloc (.cells #[a] ta)).alloc (.cells #[b] tb)) ∧ ((w.alloc (.cells #[a] ta)).alloc (.cells #[b] tb)).heap[w.heap.size]? = some (.cells #[a] ta (0, 0)) ∧ ((w.alloc (.cells #[a] ta)).alloc (.cells #[b] tb)).heap[w.heap.size + 1]? = some (.cells #[b] tb (0, 0)) := by
  refine ⟨(((Below.refl _ w).alloc (Nat.le_refl _) _).alloc (by simp) _), heap_old (heap_new _ _), ?_⟩
  have := heap_new (w.alloc (.cells #[a] ta)) (.cells #[b] tb)
  rw [show (w.alloc (.cells #[a] ta)).heap.size = w.heap.size + 1 by simp] at this
  exact this

theorem zeroFlags : Try.zeroCells95 = Array.replicate 256 (.bool false) := by kernel_rfl
theorem flags_new (w : World) : Flags (w.alloc (.cells Try.zeroCells95 95)) w.heap.size (memB []) := by
  refine ⟨_, heap_new _ _, fun j hj => ?_⟩
  rw [zeroFlags, Array.getElem?_replicate, if_pos hj]
  rfl
set_option maxHeartbeats 4000000 in
set_option maxRecDepth 100000 in
theorem over_any (S : Nat → Bool) (J : Bool → Bool → Bool) (hJ : Joins J) (k : Blk) (s : St) (f t : Nat) (F : Env → Bool) (A : Option Addr) (c : Nat) (l : List Nat) (M : FuncId) (caps : Array Value) (w : World) (hA : Ar w k s) (ad : Adm s) (g1 : s.gi f = true) (d : Den S s.nd f t F) (hS : Src w A l.length c 1 ((encL l).map encI)) (hn : l.length ≤ maxLen) (hl : ∀ x ∈ l, x < s.vs)
    (hcall : ∀ (xs : Array Value) (w : World), (callFunc M xs).run Try.prog w = .ok (.enter M xs) w) (HJ : JoinOK S J k w M caps) (hm : s.m + nS S t * 2 ^ (nS S t + 2) + 2 ≤ 1000000000) :
    Calls Try.prog 44 #[.pointer (some ⟨k.p, 0, none⟩), .int .i64 f, .slice A l.length c, .func (.func M) #[] caps] w (ApiOut k s w (nS S t * 2 ^ (nS S t + 2) + 2) (fun nd' r => ∃ t', leB t t' ∧ Den S nd' r t' (overT J (memB l) F))) := by
  have hW := hA.wf
  have hnm := hA.nm
  have l1 := d.lt hW
  have hvs := ad.vs
  obtain ⟨hb2, x0, x1⟩ := box2 w (.pointer (some ⟨k.p, 0, none⟩)) (.func (.func M) #[] caps) 24 85
  have HF : Hid (∀ j, w.heap.size ≤ j → ¬ fp k j) := by
    obtain ⟨_, _, H, _⟩ := hA
    exact fun j hj hf => by have := H.lt j hf; omega
  obtain ⟨W, hWd⟩ : ∃ W, W = ((w.alloc (.cells #[.pointer (some ⟨k.p, 0, none⟩)] 24)).alloc (.cells #[.func (.func M) #[] caps] 85)) := ⟨_, rfl⟩
  rw [← hWd] at hb2 x0 x1
  have hsW : W.heap.size = w.heap.size + 2 := by rw [hWd]; simp
  have hbl := below_wide hb2 (bel_one W (.cells #[.int .i64 f] 3))
  have HC := hide (check_any k s [(f : Int)] W.heap.size _ (hA.below hbl) (cells1 W f) (by simp; omega) (by simp))
  rw [show [(f : Int)].length = 1 from rfl, gvn_all (s := s) (l := [(f : Int)]) (by simp [g1]), hsW] at HC
  have HK := hide (known_any k s A c (encL l) _ (hA.below hbl) (by rw [encL_len]; exact hS.below hbl) (by rw [encL_len]; exact hn))
  rw [encL_len, knownB_of hl] at HK
  have y0 : (W.alloc (.cells #[.int .i64 f] 3)).cell? ⟨w.heap.size, 0, none⟩ = some (.pointer (some ⟨k.p, 0, none⟩)) := cell_heap (heap_old x0) rfl
  have y9 : W.cell? ⟨w.heap.size, 0, none⟩ = some (.pointer (some ⟨k.p, 0, none⟩)) := cell_heap x0 rfl
  have HX0 := hide (heap_old (p := .cells #[.int .i64 f] 3) x0)
  have HX1 := hide (heap_old (p := .cells #[.int .i64 f] 3) x1)
  have HBL := hide hbl
  have HA := hide hA
  have HD := hide d
  have HAD := hide ad
  have HSR := hide hS
  have HL := hide hl
  have HJJ := hide HJ
  have HS := hide hsW
  have HCL := hide hcall
  generalize hR : nS S t * 2 ^ (nS S t + 2) + 2 = R at *
  have HR := hide hR
  unfold maxLen at hn
  clear hA g1 d hbl ad hb2 x0 x1 hsW hR hS hl HJ hcall
  subst hWd
  go_enter Try.func44, Try.ntmps44
  go_wp2_with fail
  refine HC.out.mono ?_
  rintro e w1 ⟨rfl, rfl⟩
  go_wp2_with fail
  refine HK.out.mono ?_
  rintro e w2 ⟨rfl, hb⟩
  have z0 := hide (heapB hb HX0.out)
  have z1 := hide (heapB hb HX1.out)
  have HB2 := hide (below_wide HBL.out hb)
  have s2 := HB2.out.size
  clear hb HX0 HX1 HC HK y0 y9
  go_wp2_with fail
  have hf0 := hide (flags_new w2)
  have hw3 := hide (bel_one w2 (.cells Try.zeroCells95 95))
  generalize w2.alloc (.cells Try.zeroCells95 95) = w3 at *
  go_loopw [13, 27] (fun _ j wr => ∃ i : Nat, j = .int .i64 i ∧ i ≤ l.length ∧ Below w2.heap.size w2 wr ∧ Flags wr w2.heap.size (memB (l.take i))) (fun _ j _ => l.length - (intOf j).toNat)
  case atStart => exact ⟨0, rfl, Nat.zero_le _, hw3.out, hf0.out⟩
  case round =>
    obtain ⟨i, rfl, hi, hB, hFl⟩ := hrel
    rcases Nat.lt_or_ge i l.length with hlt | hge
    · obtain ⟨x, hx⟩ : ∃ x, l[i]? = some x := ⟨_, List.getElem?_eq_getElem hlt⟩
      have d1 : decide (i < l.length) = true := by simpa using hlt
      have d2 : ((i : Int) < l.length) := by omega
      have hxs := HL.out x (List.mem_of_getElem? hx)
      obtain ⟨ad', rfl, hc⟩ := src_at (Src.below HSR.out (below_wide HB2.out hB)) (i := i) (x := (x : Int)) (by unfold encL; rw [List.getElem?_map, hx]; rfl)
      have hcl := hFl.cell (j := x) (by omega)
      have hfr : wr.frozen? ⟨w2.heap.size, x, none⟩ = false := by obtain ⟨cur, h1, _⟩ := hFl; exact frozen_heap h1
      have HB3 := hide (hB.setCell (p := ⟨w2.heap.size, x, none⟩) (Nat.le_refl _) (.bool true))
      have HF3 := hide (hFl.put (x := x))
      rw [memB_next hx] at HF3
      clear hB hFl
      go_wp2_with fail
      go_roundw
      case rel => exact ⟨i + 1, by go_num, by omega, HB3.out, HF3.out⟩
      case measure => simp [intOf]; omega
    · have e : i = l.length := by omega
      have d1 : decide (i < l.length) = false := by simp; omega
      subst e
      rw [List.take_length] at hFl
      have hb3 := (below_wide HB2.out hB).drew
      have z0' := heapB hB z0.out
      have z1' := heapB hB z1.out
      have hA3 := HA.out.below hb3
      have k2 : wr.drew.cell? ⟨w.heap.size, 0, none⟩ = some (.pointer (some ⟨k.p, 0, none⟩)) := cell_heap z0' rfl
      have k3' : wr.drew.cell? ⟨w.heap.size + 1, 0, none⟩ = some (.func (.func M) #[] caps) := cell_heap z1' rfl
      have HE := hide (each_any S (fun _ => S) leB (overT J (memB l)) k s _ _ f t F wr.drew hA3 HD.out (over_made S J hJ (memB l) s.nd k wr.drew M caps w2.heap.size (w.heap.size + 1) w.heap.size HCL.out (hFl.kept rfl) k3' k2 (HF.out _ (by omega)) (HF.out _ (by omega)) (HF.out _ (by omega)) (HJJ.out.turn (Turn.below (k := k) hb3))) call_over (Nat.le_refl _) (overT_free hJ (fun _ _ => rfl)) (overT_free hJ (fun _ _ => rfl)) (by have := HR.out; omega))
      rw [HR.out] at HE
      have hmR : s.m + R ≤ 1000000000 := by have := HR.out; omega
      have HB4 := hide hb3
      have hnf := HF.out w.heap.size (by omega)
      have hlt' : w.heap.size < wr.drew.heap.size := lt_of_cell k2
      clear hb3 hA3 z0' z1' k3' hB hFl
      have hwr : IntKind.i32.wrap (f : Int) = f := wrap3 (by omega) (by omega)
      go_wp2_with fail
      go_region_held3 (fun w' => w'.cell? ⟨w.heap.size, 0, none⟩ = some (.pointer (some ⟨k.p, 0, none⟩)))
        (first | exact k2 | exact k3 | exact k4)
        (first
          | (go_at_call 38; (with_reducible refine HE.out.mono ?_); intro e w3 hh; unfold NodeOut at hh; obtain ⟨k1, s1, r, he, hA3, T3, U3, m3, o3⟩ := hh; subst he; have k3 := T3.cell k2 hnf; have HA3 := hide hA3; have HT3 := hide T3; have HU3 := hide U3; have HM3 := hide m3; have HO3 := hide o3; clear hA3 T3 U3 m3 o3)
          | (go_at_call 37; (with_reducible refine (give_call HA3.out HO3.out HM3.out hmR HU3.out HAD.out HT3.out.p).mono ?_); intro e w4 hg; obtain ⟨x, y, he, T4⟩ := give_two hg; subst he; have k4 := T4.cell k3 (HT3.out.fpn hlt' hnf); have HX := hide (api_call HU3.out HM3.out HO3.out ((Turn.below (k := k) HB4.out).trans HT3.out) HA3.out.wf hg); clear hg T4))
      all_goals (
        go_wp2_with fail
        go_ret2
        exact HX.out)
theorem src_encL {w : World} {A : Option Addr} {c : Nat} {l : List Nat} (h : Src w A l.length c 1 ((encL l).map encI)) {w' : World} (hb : Below w.heap.size w w') : Src w' A l.length c 1 ((encL l).map encI) := h.below hb

set_option maxRecDepth 100000 in
theorem Exists_any (S : Nat → Bool) (k : Blk) (s : St) (f t : Nat) (F : Env → Bool) (A : Option Addr) (c : Nat) (l : List Nat) (w : World) (hA : Ar w k s) (ad : Adm s) (g1 : s.gi f = true) (d : Den S s.nd f t F) (hS : Src w A l.length c 1 ((encL l).map encI)) (hn : l.length ≤ maxLen) (hl : ∀ x ∈ l, x < s.vs) (hm : s.m + nS S t * 2 ^ (nS S t + 2) + 2 ≤ 1000000000) :
    Calls Try.prog 25 #[.pointer (some ⟨k.p, 0, none⟩), .int .i64 f, .slice A l.length c] w (ApiOut k s w (nS S t * 2 ^ (nS S t + 2) + 2) (fun nd' r => ∃ t', leB t t' ∧ Den S nd' r t' (overT (fun a b => a || b) (memB l) F))) := by
  have hb := bel_one w (.cells #[.pointer (some ⟨k.p, 0, none⟩)] 24)
  have hnf : ¬ fp k w.heap.size := by
    obtain ⟨_, _, H, _⟩ := hA
    exact fun hf => by have := H.lt _ hf; omega
  have HC := hide (over_any S _ joins_or k s f t F A c l _ _ _ (hA.below hb) ad g1 d (hS.below hb) hn hl call_exists (exists_join S k _ w.heap.size (cell_heap (heap_new _ _) rfl) hnf) hm)
  have y0 : (w.alloc (.cells #[.pointer (some ⟨k.p, 0, none⟩)] 24)).cell? ⟨w.heap.size, 0, none⟩ = some (.pointer (some ⟨k.p, 0, none⟩)) := cell_heap (heap_new _ _) rfl
  have HB := hide hb
  generalize nS S t * 2 ^ (nS S t + 2) + 2 = R at *
  clear hA ad g1 d hS hn hl hm hb
  go_enter Try.func25, Try.ntmps25
  go_wp2_with fail
  refine HC.out.mono ?_
  intro e w1 hh
  obtain ⟨x, y, he, HX⟩ := api_two hh HB.out
  subst he
  have HX := hide HX
  clear hh
  go_wp2_with fail
  go_ret2
  exact HX.out
set_option maxRecDepth 100000 in
theorem Forall_any (S : Nat → Bool) (k : Blk) (s : St) (f t : Nat) (F : Env → Bool) (A : Option Addr) (c : Nat) (l : List Nat) (w : World) (hA : Ar w k s) (ad : Adm s) (g1 : s.gi f = true) (d : Den S s.nd f t F) (hS : Src w A l.length c 1 ((encL l).map encI)) (hn : l.length ≤ maxLen) (hl : ∀ x ∈ l, x < s.vs) (hm : s.m + nS S t * 2 ^ (nS S t + 2) + 2 ≤ 1000000000) :
    Calls Try.prog 26 #[.pointer (some ⟨k.p, 0, none⟩), .int .i64 f, .slice A l.length c] w (ApiOut k s w (nS S t * 2 ^ (nS S t + 2) + 2) (fun nd' r => ∃ t', leB t t' ∧ Den S nd' r t' (overT (fun a b => a && b) (memB l) F))) := by
  have hb := bel_one w (.cells #[.pointer (some ⟨k.p, 0, none⟩)] 24)
  have hnf : ¬ fp k w.heap.size := by
    obtain ⟨_, _, H, _⟩ := hA
    exact fun hf => by have := H.lt _ hf; omega
  have HC := hide (over_any S _ joins_and k s f t F A c l _ _ _ (hA.below hb) ad g1 d (hS.below hb) hn hl call_forall (forall_join S k _ w.heap.size (cell_heap (heap_new _ _) rfl) hnf) hm)
  have y0 : (w.alloc (.cells #[.pointer (some ⟨k.p, 0, none⟩)] 24)).cell? ⟨w.heap.size, 0, none⟩ = some (.pointer (some ⟨k.p, 0, none⟩)) := cell_heap (heap_new _ _) rfl
  have HB := hide hb
  generalize nS S t * 2 ^ (nS S t + 2) + 2 = R at *
  clear hA ad g1 d hS hn hl hm hb
  go_enter Try.func26, Try.ntmps26
  go_wp2_with fail
  refine HC.out.mono ?_
  intro e w1 hh
  obtain ⟨x, y, he, HX⟩ := api_two hh HB.out
  subst he
  have HX := hide HX
  clear hh
  go_wp2_with fail
  go_ret2
  exact HX.out
end Go.Proofs.Ytgfjdkkfgclhjaa.Bd
/- Rename: what it asks, and the function that makes. -/
namespace Go.Proofs.Ytgfjdkkfgclhjaa.Bd
open Go.RowKit Go.Proofs.Ytgfjdkkfgclhjaa Go.Proofs.Ytgfjdkkfgclhjaa.Lx Go.Maps

/-- the variables of S from v on -/
def setL (S : Nat → Bool) (v : Nat) : List Nat := ((List.range (256 - v)).filter fun x => S (v + x)).map fun x => v + x
theorem setL_len (S : Nat → Bool) (v : Nat) : (setL S v).length = nS S v := by unfold setL nS; simp
theorem setL_mem {S : Nat → Bool} {v x : Nat} : x ∈ setL S v ↔ v ≤ x ∧ x < 256 ∧ S x = true := by
  unfold setL
  simp only [List.mem_map, List.mem_filter, List.mem_range]
  constructor
  · rintro ⟨y, ⟨h1, h2⟩, rfl⟩
    exact ⟨by omega, by omega, h2⟩
  · rintro ⟨h1, h2, h3⟩
    exact ⟨x - v, ⟨by omega, by rw [show v + (x - v) = x by omega]; exact h3⟩, by omega⟩
theorem setL_nodup (S : Nat → Bool) (v : Nat) : (setL S v).Nodup := by
  unfold setL List.Nodup
  rw [List.pairwise_map]
  exact (List.nodup_range.sublist List.filter_sublist).imp (fun h e => h (by omega))
/-- one set has no more than another -/
theorem nS_sub {S S' : Nat → Bool} {u v : Nat} (g : Nat → Nat) (h : ∀ y, u ≤ y → y < 256 → S' y = true → ∃ x, v ≤ x ∧ x < 256 ∧ S x = true ∧ g x = y) : nS S' u ≤ nS S v := by
  rw [← setL_len, ← setL_len]
  have := List.Nodup.length_le_of_subset (l₂ := (setL S v).map g) (setL_nodup S' u) (fun y hy => by
    obtain ⟨h1, h2, h3⟩ := setL_mem.1 hy
    obtain ⟨x, a, b, c, e⟩ := h y h1 h2 h3
    exact List.mem_map.2 ⟨x, setL_mem.2 ⟨a, b, c⟩, e⟩)
  simpa using this
/-- what becomes of the variables of S from t on -/
def imgS (S : Nat → Bool) (rn : Nat → Nat) (t y : Nat) : Bool := (List.range 256).any fun x => decide (t ≤ x) && S x && decide (rn x = y)
theorem imgS_iff {S : Nat → Bool} {rn : Nat → Nat} {t y : Nat} : imgS S rn t y = true ↔ ∃ x, t ≤ x ∧ x < 256 ∧ S x = true ∧ rn x = y := by
  unfold imgS
  simp only [List.any_eq_true, List.mem_range, Bool.and_eq_true, decide_eq_true_eq]
  constructor
  · rintro ⟨x, h1, ⟨h2, h3⟩, h4⟩
    exact ⟨x, h2, h1, h3, h4⟩
  · rintro ⟨x, h1, h2, h3, h4⟩
    exact ⟨x, h2, ⟨h1, h3⟩, h4⟩
theorem imgS_le (S : Nat → Bool) (rn : Nat → Nat) (t u : Nat) : nS (imgS S rn t) u ≤ nS S t := nS_sub rn (fun _ _ _ h => imgS_iff.1 h)
theorem imgS_mono {S : Nat → Bool} {rn : Nat → Nat} {t t' : Nat} (h : t ≤ t') (y : Nat) (hy : imgS S rn t' y = true) : imgS S rn t y = true := by
  obtain ⟨x, h1, h2⟩ := imgS_iff.1 hy
  exact imgS_iff.2 ⟨x, by omega, h2⟩
def intoF (ps : List (Nat × Nat)) : Int → Option Int := ps.foldl (fun g p => fun x => if x = (p.1 : Int) then some (p.2 : Int) else g x) (fun _ => none)
theorem intoF_snoc (ps : List (Nat × Nat)) (p : Nat × Nat) : intoF (ps ++ [p]) = fun x => if x = (p.1 : Int) then some (p.2 : Int) else intoF ps x := by
  unfold intoF
  rw [List.foldl_append]
  rfl
theorem intoF_none {ps : List (Nat × Nat)} {a : Nat} (h : ∀ p ∈ ps, p.1 ≠ a) : intoF ps a = none := by
  rcases List.eq_nil_or_concat ps with rfl | ⟨qs, q, rfl⟩
  · rfl
  · rw [List.concat_eq_append] at h ⊢
    rw [intoF_snoc]
    simp only
    rw [if_neg (fun e => h q (by simp) (by omega))]
    exact intoF_none (fun p hp => h p (by simp [hp]))
termination_by ps.length
decreasing_by all_goals simp_wf; (try simp_all)
theorem intoF_some {ps : List (Nat × Nat)} {x c : Int} (h : intoF ps x = some c) : ∃ p ∈ ps, x = (p.1 : Int) ∧ c = (p.2 : Int) := by
  rcases List.eq_nil_or_concat ps with rfl | ⟨qs, q, rfl⟩
  · cases h
  · rw [List.concat_eq_append] at h ⊢
    rw [intoF_snoc] at h
    simp only at h
    split at h
    · rename_i e
      cases h
      exact ⟨q, by simp, e, rfl⟩
    · obtain ⟨p, hp, e⟩ := intoF_some h
      exact ⟨p, by simp [hp], e⟩
termination_by ps.length
decreasing_by all_goals simp_wf; (try simp_all)
def rnOf (ps : List (Nat × Nat)) (v : Nat) : Nat := match intoF ps v with | some c => c.toNat | none => v
def renT (rn : Nat → Nat) (F : Env → Bool) : Env → Bool := fun ρ => F (fun x => ρ (rn x))
def anyB (_ _ : Nat) : Prop := True
theorem call_rename (xs : Array Value) (w : World) : (callFunc 39 xs).run Try.prog w = .ok (.enter 39 xs) w :=
  call_enter Try.func39 (by kernel_rfl) (by kernel_rfl) xs w
/-- the two calls: a variable, and what stands on it -/
theorem rename_ite {S : Nat → Bool} {rn : Nat → Nat} {k k1 : Blk} {s s1 : St} {v u tl th r1 r2 x t1 t2 R : Nat} {Gl Gh : Env → Bool} {w1 : World} (hx : rn v = u) (hR : 2 ^ (nS S v + 2) = R) (hA1 : Ar w1 k1 s1) (hv : v < 256) (hrv : u < 256) (hS : S v = true) (h1 : v < tl) (h2 : v < th) (d1 : Den (imgS S rn tl) s.nd r1 t1 Gl) (d2 : Den (imgS S rn th) s.nd r2 t2 Gh) (U : Up s s1) (om : OkMk s.nd s1.nd u 0 1 x) (hm1 : s1.m ≤ s.m + 1) (hm : s.m + R ≤ 1000000000) (hp : k1.p = k.p) :
    Calls Try.prog 40 #[.pointer (some ⟨k.p, 0, none⟩), .int .i32 x, .int .i32 r2, .int .i32 r1] w1 fun e w' => ∃ k' s' r, e = .returned (.int .i32 (r : Nat)) ∧ Ar w' k' s' ∧ Turn k1 k' w1 w' ∧ Up s1 s' ∧ s'.m + 2 ≤ s.m + R ∧ ∃ t', anyB v t' ∧ Den (imgS S rn v) s'.nd r t' (fun ρ => if ρ u then Gh ρ else Gl ρ) := by
  have hSv : imgS S rn v u = true := imgS_iff.2 ⟨v, Nat.le_refl _, hv, hS, hx⟩
  obtain ⟨tx, _, dx⟩ := om (imgS S rn v) _ _ _ _ hSv .zero .one
  have e1 := (d1.mono (imgS_mono (Nat.le_of_lt h1))).up U
  have e2 := (d2.mono (imgS_mono (Nat.le_of_lt h2))).up U
  have hl := imgS_le S rn v (min tx (min t2 t1))
  have hpw : 2 ^ (nS (imgS S rn v) (min tx (min t2 t1)) + 1) ≤ 2 ^ (nS S v + 1) := Nat.pow_le_pow_right (by omega) (by omega)
  have hp2 : 2 ^ (nS S v + 2) = 2 * 2 ^ (nS S v + 1) := by rw [Nat.pow_succ _ (nS S v + 1)]; omega
  have hp3 : 2 ≤ 2 ^ (nS S v + 1) := by have := Nat.one_le_two_pow (n := nS S v); rw [Nat.pow_succ]; omega
  rw [← hp]
  refine (ite_any (imgS S rn v) k1 s1 x r2 r1 tx t2 t1 _ _ _ w1 hA1 dx e2 e1 (by omega)).mono ?_
  rintro e w' ⟨k', s', r, he, hA', hT', hU', hm', ho⟩
  obtain ⟨t', _, d⟩ := ho (imgS S rn v) _ _ _ _ _ _ dx e2 e1
  refine ⟨k', s', r, he, hA', hT', hU', by omega, t', trivial, ?_⟩
  have e : (fun ρ : Env => if ρ u then Gh ρ else Gl ρ) = fun ρ => if (if ρ u then true else false) then Gh ρ else Gl ρ := by funext ρ; cases ρ u <;> simp
  rw [e]; exact d
set_option maxHeartbeats 2000000 in
set_option maxRecDepth 100000 in
theorem rename_made_no (S : Nat → Bool) (rn : Nat → Nat) (k : Blk) (s : St) (w : World) (v r1 r2 t1 t2 tl th R b1 b2 im : Nat) (Gl Gh : Env → Bool) (hx : rn v = v) (hR : 2 ^ (nS S v + 2) = R) (hA : Ar w k s) (hv : v < 256) (hrv : v < 256) (hS : S v = true) (h1 : v < tl) (h2 : v < th) (d1 : Den (imgS S rn tl) s.nd r1 t1 Gl) (d2 : Den (imgS S rn th) s.nd r2 t2 Gh) (hm : s.m + R ≤ 1000000000) (hp : 4 ≤ R)
    (e1 : w.cell? ⟨b1, 0, none⟩ = some (.map (some im))) (e2 : w.cell? ⟨b2, 0, none⟩ = some (.pointer (some ⟨k.p, 0, none⟩))) (hnf : ¬ fp k b2) (lk : (Instr.lookup 79 (.map (some im)) (.int .i32 v) true).run Try.prog w = .ok (.tuple #[.int .i32 0, .bool false]) w) :
    Calls Try.prog 39 #[.int .i32 v, .int .i32 r1, .int .i32 r2, .pointer (some ⟨b1, 0, none⟩), .pointer (some ⟨b2, 0, none⟩)] w (NodeOut k s w R (fun nd' r => ∃ t', anyB v t' ∧ Den (imgS S rn v) nd' r t' (fun ρ => if ρ v then Gh ρ else Gl ρ))) := by
  have HX := hide hx
  have HR := hide hR
  have HM : Hid (∀ w', Below w.heap.size w w' → Calls Try.prog 41 #[.pointer (some ⟨k.p, 0, none⟩), .int .i32 v, .int .i32 0, .int .i32 1] w' fun e w'' => ∃ k' s' r, e = .returned (.int .i32 (r : Nat)) ∧ Ar w'' k' s' ∧ Turn k k' w' w'' ∧ Up s s' ∧ s'.m ≤ s.m + 1 ∧ OkMk s.nd s'.nd v 0 1 r) := hide (fun w' (hb : Below w.heap.size w w') => mk_any k s v 0 1 w' (hA.below hb) (by omega) (fun _ => true) 256 256 _ _ .zero .one (by omega) (by omega) (by omega) rfl)
  have HD := hide (And.intro d1 d2)
  have hw0 := (Below.refl w.heap.size w).drew
  have l2 : b2 < w.heap.size := lt_of_cell e2
  clear hA d1 d2 hR hx
  go_enter Try.func39, Try.ntmps39
  go_wp2_with fail
  go_region_held3 (fun w' => w'.cell? ⟨b2, 0, none⟩ = some (.pointer (some ⟨k.p, 0, none⟩)))
    (first | exact e2 | exact k3 | exact k4)
    (first
      | (go_at_call 41; (with_reducible refine (HM.out _ hw0).mono ?_); rintro e w1 ⟨k1, s1, x, he, hA1, T1, U1, m1, o1⟩; subst he; have k3 := T1.cell e2 hnf; have HA1 := hide hA1; have HT1 := hide T1; have HU1 := hide U1; have HM1 := hide m1; have HO1 := hide o1; clear hA1 T1 U1 m1 o1)
      | (go_at_call 40; (with_reducible refine (rename_ite HX.out HR.out HA1.out hv hrv hS h1 h2 HD.out.1 HD.out.2 HU1.out HO1.out HM1.out hm HT1.out.p).mono ?_); rintro e w2 ⟨k2, s2, r, he, hA2, T2, U2, m2, o2⟩; subst he; have k4 := T2.cell k3 (HT1.out.fpn l2 hnf); have HZ := hide (show NodeOut k s w R (fun nd' r => ∃ t', anyB v t' ∧ Den (imgS S rn v) nd' r t' (fun ρ => if ρ v then Gh ρ else Gl ρ)) (.returned (.int .i32 (r : Nat))) w2 from ⟨k2, s2, r, rfl, hA2, (Turn.below (k := k) hw0).trans (HT1.out.trans T2), HU1.out.trans U2, m2, o2⟩); clear hA2 T2 U2 m2 o2))
  all_goals (
    go_wp2_with fail
    go_ret
    exact HZ.out)
set_option maxHeartbeats 2000000 in
set_option maxRecDepth 100000 in
theorem rename_made_some (S : Nat → Bool) (rn : Nat → Nat) (k : Blk) (s : St) (w : World) (v u r1 r2 t1 t2 tl th R b1 b2 im : Nat) (Gl Gh : Env → Bool) (hx : rn v = u) (hR : 2 ^ (nS S v + 2) = R) (hA : Ar w k s) (hv : v < 256) (hrv : u < 256) (hS : S v = true) (h1 : v < tl) (h2 : v < th) (d1 : Den (imgS S rn tl) s.nd r1 t1 Gl) (d2 : Den (imgS S rn th) s.nd r2 t2 Gh) (hm : s.m + R ≤ 1000000000) (hp : 4 ≤ R)
    (e1 : w.cell? ⟨b1, 0, none⟩ = some (.map (some im))) (e2 : w.cell? ⟨b2, 0, none⟩ = some (.pointer (some ⟨k.p, 0, none⟩))) (hnf : ¬ fp k b2) (lk : (Instr.lookup 79 (.map (some im)) (.int .i32 v) true).run Try.prog w = .ok (.tuple #[.int .i32 u, .bool true]) w) :
    Calls Try.prog 39 #[.int .i32 v, .int .i32 r1, .int .i32 r2, .pointer (some ⟨b1, 0, none⟩), .pointer (some ⟨b2, 0, none⟩)] w (NodeOut k s w R (fun nd' r => ∃ t', anyB v t' ∧ Den (imgS S rn v) nd' r t' (fun ρ => if ρ u then Gh ρ else Gl ρ))) := by
  have HX := hide hx
  have HR := hide hR
  have HM : Hid (∀ w', Below w.heap.size w w' → Calls Try.prog 41 #[.pointer (some ⟨k.p, 0, none⟩), .int .i32 u, .int .i32 0, .int .i32 1] w' fun e w'' => ∃ k' s' r, e = .returned (.int .i32 (r : Nat)) ∧ Ar w'' k' s' ∧ Turn k k' w' w'' ∧ Up s s' ∧ s'.m ≤ s.m + 1 ∧ OkMk s.nd s'.nd u 0 1 r) := hide (fun w' (hb : Below w.heap.size w w') => mk_any k s u 0 1 w' (hA.below hb) (by omega) (fun _ => true) 256 256 _ _ .zero .one (by omega) (by omega) (by omega) rfl)
  have HD := hide (And.intro d1 d2)
  have hw0 := (Below.refl w.heap.size w).drew
  have l2 : b2 < w.heap.size := lt_of_cell e2
  clear hA d1 d2 hR hx
  go_enter Try.func39, Try.ntmps39
  go_wp2_with fail
  go_region_held3 (fun w' => w'.cell? ⟨b2, 0, none⟩ = some (.pointer (some ⟨k.p, 0, none⟩)))
    (first | exact e2 | exact k3 | exact k4)
    (first
      | (go_at_call 41; (with_reducible refine (HM.out _ hw0).mono ?_); rintro e w1 ⟨k1, s1, x, he, hA1, T1, U1, m1, o1⟩; subst he; have k3 := T1.cell e2 hnf; have HA1 := hide hA1; have HT1 := hide T1; have HU1 := hide U1; have HM1 := hide m1; have HO1 := hide o1; clear hA1 T1 U1 m1 o1)
      | (go_at_call 40; (with_reducible refine (rename_ite HX.out HR.out HA1.out hv hrv hS h1 h2 HD.out.1 HD.out.2 HU1.out HO1.out HM1.out hm HT1.out.p).mono ?_); rintro e w2 ⟨k2, s2, r, he, hA2, T2, U2, m2, o2⟩; subst he; have k4 := T2.cell k3 (HT1.out.fpn l2 hnf); have HZ := hide (show NodeOut k s w R (fun nd' r => ∃ t', anyB v t' ∧ Den (imgS S rn v) nd' r t' (fun ρ => if ρ u then Gh ρ else Gl ρ)) (.returned (.int .i32 (r : Nat))) w2 from ⟨k2, s2, r, rfl, hA2, (Turn.below (k := k) hw0).trans (HT1.out.trans T2), HU1.out.trans U2, m2, o2⟩); clear hA2 T2 U2 m2 o2))
  all_goals (
    go_wp2_with fail
    go_ret
    exact HZ.out)
theorem rename_made (S : Nat → Bool) (ps : List (Nat × Nat)) (nd0 : List Nd) (k0 : Blk) (w0 : World) (b1 b2 im n : Nat) (hps : ∀ p ∈ ps, p.2 < 256) (c1 : w0.cell? ⟨b1, 0, none⟩ = some (.map (some im))) (c2 : w0.cell? ⟨b2, 0, none⟩ = some (.pointer (some ⟨k0.p, 0, none⟩))) (n1 : ¬ fp k0 b1) (n2 : ¬ fp k0 b2) (n3 : ¬ fp k0 im) (hI : MInt Try.prog w0 21 21 .i32 im n enc3 (intoF ps)) :
    MadeOK S nd0 (imgS S (rnOf ps)) anyB (renT (rnOf ps)) k0 w0 39 #[.pointer (some ⟨b1, 0, none⟩), .pointer (some ⟨b2, 0, none⟩)] := by
  intro k s w v tl th r1 r2 t1 t2 Fl Fh T0 hA hex hv hS h1 h2 l1 d1 l2 d2 i1 i2 hm
  have hp := pow_four (nS S v)
  have e1 := T0.cell c1 n1
  have e2 := T0.cell c2 n2
  have hI' := hI.turn T0 n3
  rw [← T0.p] at e2
  have hnf : ¬ fp k b2 := T0.fpn (lt_of_cell c2) n2
  have lk : (Instr.lookup 79 (.map (some im)) (.int .i32 v) true).run Try.prog w = .ok (.tuple #[.int .i32 ((intoF ps v).getD 0), .bool (intoF ps v).isSome]) w :=
    hI'.look keyed3 Try.underlying79 Try.underlying21 (zero3 _) (key3 v (by omega) (by omega))
  have eT : renT (rnOf ps) (fun ρ => if ρ v then Fh ρ else Fl ρ) = fun ρ => if ρ (rnOf ps v) then renT (rnOf ps) Fh ρ else renT (rnOf ps) Fl ρ := rfl
  rw [eT]
  cases hf : intoF ps v with
  | none =>
    have hx : rnOf ps v = v := by unfold rnOf; rw [hf]
    rw [hf] at lk
    rw [hx]
    exact rename_made_no S (rnOf ps) k s w v r1 r2 t1 t2 tl th _ b1 b2 im _ _ hx rfl hA hv hv hS h1 h2 d1 d2 hm hp e1 e2 hnf lk
  | some c =>
    obtain ⟨p, hpm, _, rfl⟩ := intoF_some hf
    have hx : rnOf ps v = p.2 := by unfold rnOf; rw [hf]; simp
    rw [hf] at lk
    rw [hx]
    exact rename_made_some S (rnOf ps) k s w v p.2 r1 r2 t1 t2 tl th _ b1 b2 im _ _ hx rfl hA hv (hps p hpm) hS h1 h2 d1 d2 hm hp e1 e2 hnf lk
end Go.Proofs.Ytgfjdkkfgclhjaa.Bd
