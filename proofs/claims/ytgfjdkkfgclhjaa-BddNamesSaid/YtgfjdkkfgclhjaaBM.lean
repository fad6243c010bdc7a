/- each: a function is made anew, from the last variable up: its walk. -/
import Derived.Test.YtgfjdkkfgclhjaaBL
namespace Go.Proofs.Ytgfjdkkfgclhjaa.Bd
open Go.RowKit Go.Proofs.Ytgfjdkkfgclhjaa Go.Proofs.Ytgfjdkkfgclhjaa.Lx Go.Maps

/-- all but the arena's own blocks and block d is as it was -/
structure TurnX (d : Nat) (k k' : Blk) (w w' : World) : Prop where
  os : w'.os = w.os
  tape : w'.tape = w.tape
  output : w'.output = w.output
  size : w.heap.size ≤ w'.heap.size
  p : k'.p = k.p
  bm : k'.bm = k.bm
  it : k'.it = k.it
  gi : k'.gi = k.gi
  he : k'.he = k.he
  row : k'.g = k.g ∨ w.heap.size ≤ k'.g
  block : ∀ i, i < w.heap.size → ¬ fp k i → i ≠ d → w'.heap[i]? = w.heap[i]?
theorem Turn.x {k k' : Blk} {w w' : World} (h : Turn k k' w w') (d : Nat) : TurnX d k k' w w' := ⟨h.os, h.tape, h.output, h.size, h.p, h.bm, h.it, h.gi, h.he, h.row, fun i hi hf _ => h.block i hi hf⟩
theorem TurnX.fpn {d : Nat} {k k' : Blk} {w w' : World} (h : TurnX d k k' w w') {i : Nat} (hi : i < w.heap.size) (hf : ¬ fp k i) : ¬ fp k' i := by
  intro hf'
  apply hf
  unfold fp at hf' ⊢
  rw [h.p, h.bm, h.it, h.gi, h.he] at hf'
  rcases hf' with e | e | e
  · exact .inl e
  · rcases h.row with e' | e'
    · exact .inr (.inl (by omega))
    · omega
  · exact .inr (.inr e)
theorem TurnX.trans {d : Nat} {k k' k2 : Blk} {w w' w2 : World} (h : TurnX d k k' w w') (h2 : TurnX d k' k2 w' w2) : TurnX d k k2 w w2 := by
  have hs := h.size
  refine ⟨h2.os.trans h.os, h2.tape.trans h.tape, h2.output.trans h.output, Nat.le_trans h.size h2.size, h2.p.trans h.p, h2.bm.trans h.bm, h2.it.trans h.it, h2.gi.trans h.gi, h2.he.trans h.he, ?_, fun i hi hf hd => (h2.block i (by omega) (h.fpn hi hf) hd).trans (h.block i hi hf hd)⟩
  rcases h2.row with e | e
  · rcases h.row with e' | e'
    · exact .inl (e.trans e')
    · exact .inr (by omega)
  · exact .inr (by omega)
theorem TurnX.heap {d : Nat} {k k' : Blk} {w w' : World} (h : TurnX d k k' w w') {i : Nat} {o : Obj} (hc : w.heap[i]? = some o) (hf : ¬ fp k i) (hd : i ≠ d) : w'.heap[i]? = some o := (h.block _ (lt_heap hc) hf hd).trans hc
theorem TurnX.turn {d : Nat} {k0 k k' : Blk} {w0 w w' : World} (T : Turn k0 k w0 w) (h : TurnX d k k' w w') (hd : w0.heap.size ≤ d) : Turn k0 k' w0 w' := by
  have hs := T.size
  refine ⟨h.os.trans T.os, h.tape.trans T.tape, h.output.trans T.output, Nat.le_trans T.size h.size, h.p.trans T.p, h.bm.trans T.bm, h.it.trans T.it, h.gi.trans T.gi, h.he.trans T.he, ?_, fun i hi hf => (h.block i (by omega) (T.fpn hi hf) (by omega)).trans (T.block i hi hf)⟩
  rcases h.row with e | e
  · rcases T.row with e' | e'
    · exact .inl (e.trans e')
    · exact .inr (by omega)
  · exact .inr (by omega)
theorem TurnX.map {d : Nat} {k : Blk} {w w' : World} (h : w.mapTurned w' d) : TurnX d k k w w' :=
  ⟨h.grown.os, h.grown.tape, h.grown.output, h.grown.size, rfl, rfl, rfl, rfl, rfl, .inl rfl, fun i hi _ hd => h.grown.block i hi (fun e => hd (by injection e))⟩
theorem TurnX.below {d : Nat} {k : Blk} {w w' : World} (h : Below w.heap.size w w') : TurnX d k k w w' := (Turn.below h).x d
/-- a map that lies outside of what may turn -/
theorem MInt.block {P : Program} {w w' : World} {kt e : TypeId} {q : IntKind} {b n : Nat} {α : Type} {en : α → Value} {f : α → Option Int} (h : MInt P w kt e q b n en f) (hos : w'.os = w.os) (ht : w'.tape = w.tape) (ho : w'.output = w.output) (hs : w.heap.size ≤ w'.heap.size) (hb : w'.heap[b]? = w.heap[b]?) : MInt P w' kt e q b n en f := by
  -- every other block may have turned: as if the map were the only one that the world keeps
  obtain ⟨D, h1, h2⟩ := h
  obtain ⟨es, cl, hh, F, hs', hD⟩ := h1
  exact ⟨D, ⟨es, cl, hb.trans hh, F, hs', hD⟩, h2⟩
theorem MInt.x {d : Nat} {k k' : Blk} {w w' : World} {kt e : TypeId} {q : IntKind} {b n : Nat} {α : Type} {en : α → Value} {f : α → Option Int} (h : MInt Try.prog w kt e q b n en f) (T : TurnX d k k' w w') (hf : ¬ fp k b) (hd : b ≠ d) : MInt Try.prog w' kt e q b n en f :=
  h.block T.os T.tape T.output T.size (T.block b h.lt hf hd)
theorem MInt.turn {k k' : Blk} {w w' : World} {kt e : TypeId} {q : IntKind} {b n : Nat} {α : Type} {en : α → Value} {f : α → Option Int} (h : MInt Try.prog w kt e q b n en f) (T : Turn k k' w w') (hf : ¬ fp k b) : MInt Try.prog w' kt e q b n en f :=
  h.block T.os T.tape T.output T.size (T.block b h.lt hf)

/-! ### what is asked of a function that makes -/
/-- node r is what becomes of node i -/
def GoodAt (S : Nat → Bool) (nd0 : List Nd) (S' : Nat → Nat → Bool) (bd : Nat → Nat → Prop) (T : (Env → Bool) → Env → Bool) (nd' : List Nd) (i r : Nat) : Prop :=
  ∀ t F, Den S nd0 i t F → ∃ t', bd t t' ∧ Den (S' t) nd' r t' (T F)
theorem GoodAt.append {S : Nat → Bool} {nd0 : List Nd} {S' : Nat → Nat → Bool} {bd : Nat → Nat → Prop} {T : (Env → Bool) → Env → Bool} {nd' ex : List Nd} {i r : Nat} (h : GoodAt S nd0 S' bd T nd' i r) : GoodAt S nd0 S' bd T (nd' ++ ex) i r := by
  intro t F d
  obtain ⟨t', h1, h2⟩ := h t F d
  exact ⟨t', h1, h2.append⟩
theorem GoodAt.up {S : Nat → Bool} {nd0 : List Nd} {S' : Nat → Nat → Bool} {bd : Nat → Nat → Prop} {T : (Env → Bool) → Env → Bool} {s s' : St} {i r : Nat} (h : GoodAt S nd0 S' bd T s.nd i r) (hu : Up s s') : GoodAt S nd0 S' bd T s'.nd i r := by
  obtain ⟨ex, e⟩ := hu.nd
  rw [e]; exact h.append
def MadeOK (S : Nat → Bool) (nd0 : List Nd) (S' : Nat → Nat → Bool) (bd : Nat → Nat → Prop) (T : (Env → Bool) → Env → Bool) (k0 : Blk) (w0 : World) (M : FuncId) (caps : Array Value) : Prop :=
  ∀ (k : Blk) (s : St) (w : World) (v tl th r1 r2 t1 t2 : Nat) (Fl Fh : Env → Bool), Turn k0 k w0 w → Ar w k s → (∃ ex, s.nd = nd0 ++ ex) → v < 256 → S v = true → v < tl → v < th → bd tl t1 → Den (S' tl) s.nd r1 t1 (T Fl) → bd th t2 → Den (S' th) s.nd r2 t2 (T Fh) →
    (∀ ρ ρ' : Env, (∀ x, v < x → x < 256 → ρ x = ρ' x) → Fl ρ = Fl ρ') → (∀ ρ ρ' : Env, (∀ x, v < x → x < 256 → ρ x = ρ' x) → Fh ρ = Fh ρ') → s.m + 2 ^ (nS S v + 2) ≤ 1000000000 →
    Calls Try.prog M (#[.int .i32 v, .int .i32 r1, .int .i32 r2] ++ caps) w (NodeOut k s w (2 ^ (nS S v + 2)) (fun nd' r => ∃ t', bd v t' ∧ Den (S' v) nd' r t' (T (fun ρ => if ρ v then Fh ρ else Fl ρ))))
structure DoneOK (S : Nat → Bool) (nd0 : List Nd) (S' : Nat → Nat → Bool) (bd : Nat → Nat → Prop) (T : (Env → Bool) → Env → Bool) (nd' : List Nd) (fd : Int → Option Int) : Prop where
  d0 : fd 0 = some 0
  d1 : fd 1 = some 1
  all : ∀ x c, fd x = some c → ∃ i r : Nat, x = i ∧ c = r ∧ r < nd'.length ∧ GoodAt S nd0 S' bd T nd' i r
theorem DoneOK.up {S : Nat → Bool} {nd0 : List Nd} {S' : Nat → Nat → Bool} {bd : Nat → Nat → Prop} {T : (Env → Bool) → Env → Bool} {s s' : St} {fd : Int → Option Int} (h : DoneOK S nd0 S' bd T s.nd fd) (hu : Up s s') : DoneOK S nd0 S' bd T s'.nd fd := by
  refine ⟨h.d0, h.d1, fun x c hc => ?_⟩
  obtain ⟨i, r, h1, h2, h3, h4⟩ := h.all x c hc
  exact ⟨i, r, h1, h2, by have := hu.len; omega, h4.up hu⟩
theorem DoneOK.put {S : Nat → Bool} {nd0 : List Nd} {S' : Nat → Nat → Bool} {bd : Nat → Nat → Prop} {T : (Env → Bool) → Env → Bool} {nd' : List Nd} {fd : Int → Option Int} (h : DoneOK S nd0 S' bd T nd' fd) {i r : Nat} (h2 : 2 ≤ i) (hr : r < nd'.length) (hg : GoodAt S nd0 S' bd T nd' i r) : DoneOK S nd0 S' bd T nd' (fun x => if x = (i : Int) then some (r : Int) else fd x) := by
  refine ⟨by rw [if_neg (by omega)]; exact h.d0, by rw [if_neg (by omega)]; exact h.d1, fun x c hc => ?_⟩
  split at hc
  · rename_i e
    cases hc
    exact ⟨i, r, e, rfl, hr, hg⟩
  · exact h.all x c hc
/-- what the walk has in memory -/
structure Es (w : World) (p b1 b2 b3 b4 db N : Nat) (M : FuncId) (caps : Array Value) (fd : Int → Option Int) : Prop where
  c1 : w.heap[b1]? = some (.cells #[.map (some db)] 79 (0, 0))
  c2 : w.heap[b2]? = some (.cells #[.pointer (some ⟨p, 0, none⟩)] 24 (0, 0))
  c3 : w.heap[b3]? = some (.cells #[.func (.func 56) #[] #[.pointer (some ⟨b1, 0, none⟩), .pointer (some ⟨b2, 0, none⟩), .pointer (some ⟨b3, 0, none⟩), .pointer (some ⟨b4, 0, none⟩)]] 92 (0, 0))
  c4 : w.heap[b4]? = some (.cells #[.func (.func M) #[] caps] 83 (0, 0))
  done : MInt Try.prog w 21 21 .i32 db N enc3 fd
structure Apart (k : Blk) (base b1 b2 b3 b4 db : Nat) : Prop where
  n1 : ¬ fp k b1
  n2 : ¬ fp k b2
  n3 : ¬ fp k b3
  n4 : ¬ fp k b4
  nd : ¬ fp k db
  l1 : base ≤ db
theorem Es.lt {w : World} {p b1 b2 b3 b4 db N : Nat} {M : FuncId} {caps : Array Value} {fd : Int → Option Int} (E : Es w p b1 b2 b3 b4 db N M caps fd) : b1 < w.heap.size ∧ b2 < w.heap.size ∧ b3 < w.heap.size ∧ b4 < w.heap.size ∧ db < w.heap.size := ⟨lt_heap E.c1, lt_heap E.c2, lt_heap E.c3, lt_heap E.c4, E.done.lt⟩
theorem Es.ne {w : World} {p b1 b2 b3 b4 db N : Nat} {M : FuncId} {caps : Array Value} {fd : Int → Option Int} (E : Es w p b1 b2 b3 b4 db N M caps fd) : b1 ≠ db ∧ b2 ≠ db ∧ b3 ≠ db ∧ b4 ≠ db := by
  obtain ⟨_, _, h⟩ := E.done.heap
  exact ⟨ne_kind E.c1 h, ne_kind E.c2 h, ne_kind E.c3 h, ne_kind E.c4 h⟩
theorem Es.x {w w' : World} {k k' : Blk} {p b1 b2 b3 b4 db N N' base : Nat} {M : FuncId} {caps : Array Value} {fd fd' : Int → Option Int} (E : Es w p b1 b2 b3 b4 db N M caps fd) (A : Apart k base b1 b2 b3 b4 db) (T : TurnX db k k' w w') (hd : MInt Try.prog w' 21 21 .i32 db N' enc3 fd') :
    Es w' p b1 b2 b3 b4 db N' M caps fd' ∧ Apart k' base b1 b2 b3 b4 db := by
  obtain ⟨e1, e2, e3, e4⟩ := E.ne
  obtain ⟨l1, l2, l3, l4, l5⟩ := E.lt
  exact ⟨⟨T.heap E.c1 A.n1 e1, T.heap E.c2 A.n2 e2, T.heap E.c3 A.n3 e3, T.heap E.c4 A.n4 e4, hd⟩, ⟨T.fpn l1 A.n1, T.fpn l2 A.n2, T.fpn l3 A.n3, T.fpn l4 A.n4, T.fpn l5 A.nd, A.l1⟩⟩
theorem Es.t {w w' : World} {k k' : Blk} {p b1 b2 b3 b4 db N base : Nat} {M : FuncId} {caps : Array Value} {fd : Int → Option Int} (E : Es w p b1 b2 b3 b4 db N M caps fd) (A : Apart k base b1 b2 b3 b4 db) (T : Turn k k' w w') :
    Es w' p b1 b2 b3 b4 db N M caps fd ∧ Apart k' base b1 b2 b3 b4 db := E.x A (T.x db) (E.done.turn T A.nd)
/-- what the walk over a node answers -/
def WalkOut (S : Nat → Bool) (nd0 : List Nd) (S' : Nat → Nat → Bool) (bd : Nat → Nat → Prop) (T : (Env → Bool) → Env → Bool) (k : Blk) (s : St) (w : World) (db N n f : Nat) (e : Ending) (w' : World) : Prop :=
  ∃ (k' : Blk) (s' : St) (r N' : Nat) (fd' : Int → Option Int), e = .returned (.int .i32 (r : Nat)) ∧ Ar w' k' s' ∧ Up s s' ∧ s'.m ≤ s.m + n * 2 ^ (n + 2) ∧ N' + 1 ≤ N + 2 ^ n ∧ TurnX db k k' w w' ∧ MInt Try.prog w' 21 21 .i32 db N' enc3 fd' ∧ DoneOK S nd0 S' bd T s'.nd fd' ∧ r < s'.nd.length ∧ GoodAt S nd0 S' bd T s'.nd f r
def WalkAt (S : Nat → Bool) (nd0 : List Nd) (S' : Nat → Nat → Bool) (bd : Nat → Nat → Prop) (T : (Env → Bool) → Env → Bool) (k0 : Blk) (w0 : World) (M : FuncId) (caps : Array Value) (b1 b2 b3 b4 db n : Nat) : Prop :=
  ∀ (f t : Nat) (F : Env → Bool) (k : Blk) (s : St) (w : World) (N : Nat) (fd : Int → Option Int), f < n → Den S nd0 f t F → Ar w k s → (∃ ex, s.nd = nd0 ++ ex) → Turn k0 k w0 w → Es w k.p b1 b2 b3 b4 db N M caps fd → DoneOK S nd0 S' bd T s.nd fd → Apart k w0.heap.size b1 b2 b3 b4 db → s.m + nS S t * 2 ^ (nS S t + 2) ≤ 1000000000 → N + 2 ^ nS S t ≤ 2000000000 →
    Calls Try.prog 56 #[.int .i32 f, .pointer (some ⟨b1, 0, none⟩), .pointer (some ⟨b2, 0, none⟩), .pointer (some ⟨b3, 0, none⟩), .pointer (some ⟨b4, 0, none⟩)] w (WalkOut S nd0 S' bd T k s w db N (nS S t) f)
end Go.Proofs.Ytgfjdkkfgclhjaa.Bd
