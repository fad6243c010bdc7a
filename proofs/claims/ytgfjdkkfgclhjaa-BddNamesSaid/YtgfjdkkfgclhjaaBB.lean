/- An arena in memory: its block, the row of its nodes, its four maps; what keeps it. -/
import Derived.Test.YtgfjdkkfgclhjaaBA
namespace Go.Proofs.Ytgfjdkkfgclhjaa.Bd
open Go.RowKit Go.Proofs.Ytgfjdkkfgclhjaa Go.Proofs.Ytgfjdkkfgclhjaa.Lx Go.Maps

structure Blk where
  p : Nat
  g : Nat
  c : Nat
  bm : Nat
  it : Nat
  gi : Nat
  he : Nat
structure St where
  vs : Nat
  ms : Nat
  nd : List Nd
  gi : Int → Bool
  gn : Nat
  he : Int → Bool
  hn : Nat
  m : Nat
def cellsN (nd : List Nd) : List Value := nd.flatMap fun x => [.int .i32 x.1, .int .i32 x.2.1, .int .i32 x.2.2]
theorem cellsN_length (nd : List Nd) : (cellsN nd).length = nd.length * 3 := by
  unfold cellsN
  induction nd with
  | nil => rfl
  | cons x xs ih => simp only [List.flatMap_cons, List.length_append, ih, List.length_cons, List.length_nil]; omega
theorem cellsN_append (a b : List Nd) : cellsN (a ++ b) = cellsN a ++ cellsN b := by simp [cellsN]
theorem cellsN_get : ∀ {nd : List Nd} {i : Nat} {x : Nd}, nd[i]? = some x → (cellsN nd)[i * 3]? = some (.int .i32 x.1) ∧ (cellsN nd)[i * 3 + 1]? = some (.int .i32 x.2.1) ∧ (cellsN nd)[i * 3 + 2]? = some (.int .i32 x.2.2) := by
  intro nd
  induction nd with
  | nil => intro i x h; simp at h
  | cons y ys ih =>
    intro i x h
    cases i with
    | zero => simp at h; subst h; simp [cellsN]
    | succ i =>
      have := ih (i := i) (x := x) (by simpa using h)
      have e : cellsN (y :: ys) = [.int .i32 y.1, .int .i32 y.2.1, .int .i32 y.2.2] ++ cellsN ys := by simp [cellsN]
      rw [e, show (i + 1) * 3 = i * 3 + 3 by omega, List.getElem?_append_right (by simp), List.getElem?_append_right (by simp), List.getElem?_append_right (by simp)]
      simpa using this
def cellsA (k : Blk) (s : St) : Array Value := #[.int .i64 s.vs, .int .i64 s.ms, .slice (some ⟨k.g, 0, none⟩) s.nd.length k.c, .map (some k.bm), .map (some k.it), .map (some k.gi), .map (some k.he)]

/-- what lies in memory -/
structure Hp (w : World) (k : Blk) (s : St) (fb ft : Nd → Option Int) : Prop where
  p : w.heap[k.p]? = some (.cells (cellsA k s) 65 (0, 0))
  v : w.ownsRow 0 58 3 (.slice (some ⟨k.g, 0, none⟩) s.nd.length k.c) s.nd.length (cellsN s.nd)
  bm : MInt Try.prog w 58 21 .i32 k.bm s.m encN fb
  it : MInt Try.prog w 93 21 .i32 k.it s.m encN ft
  gi : ∃ N, MSet Try.prog w 3 4 k.gi s.gn N encI s.gi
  he : MSet Try.prog w 21 4 k.he s.hn s.hn enc3 s.he
  d1 : k.bm ≠ k.it
  d2 : k.bm ≠ k.gi
  d3 : k.bm ≠ k.he
  d4 : k.it ≠ k.gi
  d5 : k.it ≠ k.he
  d6 : k.gi ≠ k.he
def fp (k : Blk) (i : Nat) : Prop := i = k.p ∨ i = k.g ∨ i = k.bm ∨ i = k.it ∨ i = k.gi ∨ i = k.he
/-- all but the arena's own blocks is as it was -/
structure Turn (k k' : Blk) (w w' : World) : Prop where
  os : w'.os = w.os
  tape : w'.tape = w.tape
  output : w'.output = w.output
  size : w.heap.size ≤ w'.heap.size
  p : k'.p = k.p
  bm : k'.bm = k.bm
  it : k'.it = k.it
  gi : k'.gi = k.gi
  he : k'.he = k.he
  row : k'.g = k.g ∨ w.heap.size ≤ k'.g
  block : ∀ i, i < w.heap.size → ¬ fp k i → w'.heap[i]? = w.heap[i]?

variable {w w' : World} {k k' : Blk} {s s' : St} {fb ft : Nd → Option Int}
theorem MInt.heap {P : Program} {kt e : TypeId} {q : IntKind} {b n : Nat} {α : Type} {en : α → Value} {f : α → Option Int} (h : MInt P w kt e q b n en f) : ∃ es cl, w.heap[b]? = some (.map es cl) := by
  obtain ⟨D, ⟨es, cl, hb, _⟩, _⟩ := h
  exact ⟨es, cl, hb⟩
theorem MSet.heap {P : Program} {kt e : TypeId} {b n N : Nat} {α : Type} {en : α → Value} {f : α → Bool} (h : MSet P w kt e b n N en f) : ∃ es cl, w.heap[b]? = some (.map es cl) := by
  obtain ⟨D, ⟨es, cl, hb, _⟩, _⟩ := h
  exact ⟨es, cl, hb⟩
theorem ne_kind {i j : Nat} {cs : Array Value} {t : TypeId} {fz : Nat × Nat} {es : Array MapEntry} {cl : Nat} (h : w.heap[i]? = some (.cells cs t fz)) (h2 : w.heap[j]? = some (.map es cl)) : i ≠ j := by
  rintro rfl
  rw [h] at h2
  cases h2
theorem Hp.row (h : Hp w k s fb ft) : ∃ cur, w.heap[k.g]? = some (.cells cur 58 (0, 0)) := by
  rcases h.v.2 with ⟨h1, _⟩ | ⟨g, cap, cur, h1, _, h3, _⟩
  · cases h1
  · cases h1
    exact ⟨cur, h3⟩
theorem Hp.pg (h : Hp w k s fb ft) : k.p ≠ k.g := by
  obtain ⟨cur, hc⟩ := h.row
  exact heap_ne h.p hc (by decide)
theorem Hp.giHeap (h : Hp w k s fb ft) : ∃ (N : Nat) (es : Array MapEntry) (cl : Nat), w.heap[k.gi]? = some (.map es cl) := by
  obtain ⟨N, hg⟩ := h.gi
  obtain ⟨es, cl, e⟩ := hg.heap
  exact ⟨N, es, cl, e⟩
theorem Hp.lt (h : Hp w k s fb ft) : ∀ i, fp k i → i < w.heap.size := by
  rintro i (rfl | rfl | rfl | rfl | rfl | rfl)
  · exact lt_heap h.p
  · obtain ⟨cur, hc⟩ := h.row; exact lt_heap hc
  · exact h.bm.lt
  · exact h.it.lt
  · obtain ⟨N, hg⟩ := h.gi; exact hg.lt
  · exact h.he.lt
theorem Hp.maps (h : Hp w k s fb ft) : k.p ≠ k.bm ∧ k.p ≠ k.it ∧ k.p ≠ k.gi ∧ k.p ≠ k.he ∧ k.g ≠ k.bm ∧ k.g ≠ k.it ∧ k.g ≠ k.gi ∧ k.g ≠ k.he := by
  obtain ⟨cur, hc⟩ := h.row
  obtain ⟨_, _, e1⟩ := h.bm.heap
  obtain ⟨_, _, e2⟩ := h.it.heap
  obtain ⟨_, _, _, e3⟩ := h.giHeap
  obtain ⟨_, _, e4⟩ := h.he.heap
  exact ⟨ne_kind h.p e1, ne_kind h.p e2, ne_kind h.p e3, ne_kind h.p e4, ne_kind hc e1, ne_kind hc e2, ne_kind hc e3, ne_kind hc e4⟩
theorem Hp.kept {row : Option Nat} (h : Hp w k s fb ft) (hg : w.grownBy w' row) (hne : ∀ b, row = some b → ¬ fp k b) : Hp w' k s fb ft := by
  have hn : ∀ i, fp k i → some i ≠ row := fun i hi e => hne i e.symm hi
  refine ⟨heap_grown h.p hg (fun e => hne _ e (.inl rfl)), own_kept h.v hg (fun g e => ?_), h.bm.kept hg (hn _ (by simp [fp])), h.it.kept hg (hn _ (by simp [fp])), (h.gi.imp fun N hN => hN.kept hg (hn _ (by simp [fp]))), h.he.kept hg (hn _ (by simp [fp])), h.d1, h.d2, h.d3, h.d4, h.d5, h.d6⟩
  intro e2
  have : k.g = g := by simpa [Value.ownBlock] using e2
  exact hne g e (by subst this; simp [fp])
theorem Hp.below (h : Hp w k s fb ft) (hb : Below w.heap.size w w') : Hp w' k s fb ft := h.kept (below_grown hb none) (fun b e => by cases e)
theorem Hp.drew (h : Hp w k s fb ft) : Hp w.drew k s fb ft := h.below ((Below.refl _ w).drew)
theorem Hp.far (h : Hp w k s fb ft) {a : Addr} (ha : ¬ fp k a.block) (u : Value) : Hp (w.setCell a u) k s fb ft :=
  h.kept (row := some a.block) ⟨rfl, rfl, rfl, by simp [World.setCell], fun i _ hi => Below.heap_setCell _ _ _ _ (fun e => hi (by rw [e]))⟩ (fun b e => by cases e; exact ha)

theorem Turn.refl (k : Blk) (w : World) : Turn k k w w := ⟨rfl, rfl, rfl, Nat.le_refl _, rfl, rfl, rfl, rfl, rfl, .inl rfl, fun _ _ _ => rfl⟩
theorem Turn.trans {k2 : Blk} {w2 : World} (h : Turn k k' w w') (h2 : Turn k' k2 w' w2) : Turn k k2 w w2 := by
  have hs := h.size
  refine ⟨h2.os.trans h.os, h2.tape.trans h.tape, h2.output.trans h.output, Nat.le_trans h.size h2.size, h2.p.trans h.p, h2.bm.trans h.bm, h2.it.trans h.it, h2.gi.trans h.gi, h2.he.trans h.he, ?_, fun i hi hf => ?_⟩
  · rcases h2.row with e | e
    · rcases h.row with e' | e'
      · exact .inl (e.trans e')
      · exact .inr (by omega)
    · exact .inr (by omega)
  · refine (h2.block i (by omega) ?_).trans (h.block i hi hf)
    intro hf'
    apply hf
    unfold fp at hf' ⊢
    rw [h.p, h.bm, h.it, h.gi, h.he] at hf'
    rcases hf' with e | e | e
    · exact .inl e
    · rcases h.row with e' | e'
      · exact .inr (.inl (by omega))
      · omega
    · exact .inr (.inr e)
theorem Turn.below (h : Below w.heap.size w w') : Turn k k w w' := ⟨h.os, h.tape, h.output, h.size, rfl, rfl, rfl, rfl, rfl, .inl rfl, fun i hi _ => h.block i hi⟩
theorem Turn.grown {row : Option Nat} (h : w.grownBy w' row) (hr : ∀ b, row = some b → fp k b) : Turn k k w w' := ⟨h.os, h.tape, h.output, h.size, rfl, rfl, rfl, rfl, rfl, .inl rfl, fun i hi hf => h.block i hi (fun e => hf (hr i e.symm))⟩
theorem Turn.cell (h : Turn k k' w w') {a : Addr} {u : Value} (hc : w.cell? a = some u) (hf : ¬ fp k a.block) : w'.cell? a = some u := by
  rw [World.cell?_of_block (h.block _ (lt_of_cell hc) hf)]; exact hc
theorem Turn.heap (h : Turn k k' w w') {i : Nat} {o : Obj} (hc : w.heap[i]? = some o) (hf : ¬ fp k i) : w'.heap[i]? = some o := (h.block _ (lt_heap hc) hf).trans hc
theorem Turn.fpn (h : Turn k k' w w') {i : Nat} (hi : i < w.heap.size) (hf : ¬ fp k i) : ¬ fp k' i := by
  intro hf'
  apply hf
  unfold fp at hf' ⊢
  rw [h.p, h.bm, h.it, h.gi, h.he] at hf'
  rcases hf' with e | e | e
  · exact .inl e
  · rcases h.row with e' | e'
    · exact .inr (.inl (by omega))
    · omega
  · exact .inr (.inr e)
/-- all that an arena may turn lies at B or above: what is below stays -/
theorem Turn.low {B : Nat} (h : Turn k k' w w') (hB : ∀ i, fp k i → B ≤ i) (hs : B ≤ w.heap.size) : Below B w w' := ⟨h.os, h.tape, h.output, h.size, fun i hi => h.block i (by omega) (fun hf => by have := hB i hf; omega)⟩

/-! ### the steps of a turn -/
theorem Hp.append (h : Hp w k s fb ft) {c' g' : Nat} {x : Nd} (hr : w'.ownsRow 0 58 3 (.slice (some ⟨g', 0, none⟩) (s.nd.length + 1) c') (s.nd.length + 1) (cellsN s.nd ++ [.int .i32 x.1, .int .i32 x.2.1, .int .i32 x.2.2]))
    (hg : w.grownBy w' (some k.g)) (hnew : g' = k.g ∨ w.heap.size ≤ g') :
    Hp (w'.setCell ⟨k.p, 2, none⟩ (.slice (some ⟨g', 0, none⟩) (s.nd.length + 1) c')) { k with g := g', c := c' } { s with nd := s.nd ++ [x] } fb ft ∧ Turn k { k with g := g', c := c' } w (w'.setCell ⟨k.p, 2, none⟩ (.slice (some ⟨g', 0, none⟩) (s.nd.length + 1) c')) := by
  have hm := h.maps
  have hp := h.pg
  have hl := h.lt
  have p1 := heap_grown h.p hg (fun e => hp (by injection e with e; exact e.symm))
  have nb : ∀ {b : Nat}, b ≠ k.g → some b ≠ some k.g := fun h e => h (by injection e)
  have m1 := h.bm.kept hg (nb (Ne.symm hm.2.2.2.2.1))
  have m2 := h.it.kept hg (nb (Ne.symm hm.2.2.2.2.2.1))
  have m3 := h.gi.imp fun N hN => hN.kept hg (nb (Ne.symm hm.2.2.2.2.2.2.1))
  have m4 := h.he.kept hg (nb (Ne.symm hm.2.2.2.2.2.2.2))
  have ha : (⟨k.p, 2, none⟩ : Addr).block = k.p := rfl
  refine ⟨⟨?_, ?_, m1.setCell (by rw [ha]; exact Ne.symm hm.1) _, m2.setCell (by rw [ha]; exact Ne.symm hm.2.1) _, (m3.imp fun N hN => hN.setCell (by rw [ha]; exact Ne.symm hm.2.2.1) _), m4.setCell (by rw [ha]; exact Ne.symm hm.2.2.2.1) _, h.d1, h.d2, h.d3, h.d4, h.d5, h.d6⟩, ?_⟩
  · rw [heap_set p1]
    simp [cellsA]
  · simp only [List.length_append, List.length_cons, List.length_nil, cellsN_append]
    have e : cellsN [x] = [.int .i32 x.1, .int .i32 x.2.1, .int .i32 x.2.2] := by simp [cellsN]
    rw [e]
    have pg' : k.p ≠ g' := by
      rcases hnew with e | e
      · rw [e]; exact hp
      · have := hl k.p (.inl rfl); omega
    refine own_kept (row := some k.p) hr ⟨rfl, rfl, rfl, by simp [World.setCell], fun i _ hi => Below.heap_setCell _ _ _ _ (fun e => hi (by rw [e]))⟩ (fun g e1 e2 => ?_)
    have a1 : k.p = g := by injection e1
    have a2 : g' = g := by simpa [Value.ownBlock] using e2
    exact pg' (by rw [a1, a2])
  · refine ⟨hg.os, hg.tape, hg.output, by simpa [World.setCell] using hg.size, rfl, rfl, rfl, rfl, rfl, hnew, fun i hi hf => ?_⟩
    refine (Below.heap_setCell _ _ _ _ (fun e => hf (.inl e))).trans (hg.block i hi (fun e => hf (.inr (.inl (by injection e)))))
theorem Hp.bmPut (h : Hp w k s fb ft) {fb' : Nd → Option Int} (hm : MInt Try.prog w' 58 21 .i32 k.bm (s.m + 1) encN fb') (hg : w.mapTurned w' k.bm) :
    Hp w' k { s with m := s.m + 1 } fb' ft ∧ Turn k k w w' := by
  have hg := hg.grown
  have hx := h.maps
  have nb : ∀ {b : Nat}, b ≠ k.bm → some b ≠ some k.bm := fun h e => h (by injection e)
  refine ⟨⟨heap_grown h.p hg (fun e => hx.1 (by injection e with e; exact e.symm)), own_kept h.v hg (fun g e1 e2 => hx.2.2.2.2.1 ?_), hm, (h.it.kept hg (nb (Ne.symm h.d1))).mono (Nat.le_succ _), (h.gi.imp fun N hN => hN.kept hg (nb (Ne.symm h.d2))), h.he.kept hg (nb (Ne.symm h.d3)), h.d1, h.d2, h.d3, h.d4, h.d5, h.d6⟩, Turn.grown hg (fun b e => by injection e with e; subst e; simp [fp])⟩
  have : k.g = g := by simpa [Value.ownBlock] using e2
  injection e1 with e1
  omega
theorem Hp.itPut (h : Hp w k s fb ft) {ft' : Nd → Option Int} (hm : MInt Try.prog w' 93 21 .i32 k.it (s.m + 1) encN ft') (hg : w.mapTurned w' k.it) :
    Hp w' k { s with m := s.m + 1 } fb ft' ∧ Turn k k w w' := by
  have hg := hg.grown
  have hx := h.maps
  have nb : ∀ {b : Nat}, b ≠ k.it → some b ≠ some k.it := fun h e => h (by injection e)
  refine ⟨⟨heap_grown h.p hg (fun e => hx.2.1 (by injection e with e; exact e.symm)), own_kept h.v hg (fun g e1 e2 => hx.2.2.2.2.2.1 ?_), (h.bm.kept hg (nb h.d1)).mono (Nat.le_succ _), hm, (h.gi.imp fun N hN => hN.kept hg (nb (Ne.symm h.d4))), h.he.kept hg (nb (Ne.symm h.d5)), h.d1, h.d2, h.d3, h.d4, h.d5, h.d6⟩, Turn.grown hg (fun b e => by injection e with e; subst e; simp [fp])⟩
  have : k.g = g := by simpa [Value.ownBlock] using e2
  injection e1 with e1
  omega
theorem Hp.giPut (h : Hp w k s fb ft) {N : Nat} {f : Int → Bool} (hm : MSet Try.prog w' 3 4 k.gi (s.gn + 1) N encI f) (hg : w.mapTurned w' k.gi) :
    Hp w' k { s with gi := f, gn := s.gn + 1 } fb ft ∧ Turn k k w w' := by
  have hg := hg.grown
  have hx := h.maps
  have nb : ∀ {b : Nat}, b ≠ k.gi → some b ≠ some k.gi := fun h e => h (by injection e)
  refine ⟨⟨heap_grown h.p hg (fun e => hx.2.2.1 (by injection e with e; exact e.symm)), own_kept h.v hg (fun g e1 e2 => hx.2.2.2.2.2.2.1 ?_), h.bm.kept hg (nb h.d2), h.it.kept hg (nb h.d4), ⟨N, hm⟩, h.he.kept hg (nb (Ne.symm h.d6)), h.d1, h.d2, h.d3, h.d4, h.d5, h.d6⟩, Turn.grown hg (fun b e => by injection e with e; subst e; simp [fp])⟩
  have : k.g = g := by simpa [Value.ownBlock] using e2
  injection e1 with e1
  omega
theorem Hp.hePut (h : Hp w k s fb ft) {N : Nat} {f : Int → Bool} (hm : MSet Try.prog w' 21 4 k.he N N enc3 f) (hg : w.mapTurned w' k.he) :
    Hp w' k { s with he := f, hn := N } fb ft ∧ Turn k k w w' := by
  have hg := hg.grown
  have hx := h.maps
  have nb : ∀ {b : Nat}, b ≠ k.he → some b ≠ some k.he := fun h e => h (by injection e)
  refine ⟨⟨heap_grown h.p hg (fun e => hx.2.2.2.1 (by injection e with e; exact e.symm)), own_kept h.v hg (fun g e1 e2 => hx.2.2.2.2.2.2.2 ?_), h.bm.kept hg (nb h.d3), h.it.kept hg (nb h.d5), (h.gi.imp fun N hN => hN.kept hg (nb h.d6)), hm, h.d1, h.d2, h.d3, h.d4, h.d5, h.d6⟩, Turn.grown hg (fun b e => by injection e with e; subst e; simp [fp])⟩
  have : k.g = g := by simpa [Value.ownBlock] using e2
  injection e1 with e1
  omega
/-! ### what the walk reads -/
theorem Hp.cell (h : Hp w k s fb ft) {j : Nat} {u : Value} (hj : (cellsA k s)[j]? = some u) : w.cell? ⟨k.p, j, none⟩ = some u := cell_heap h.p hj
theorem Hp.c0 (h : Hp w k s fb ft) : w.cell? ⟨k.p, 0, none⟩ = some (.int .i64 s.vs) := h.cell rfl
theorem Hp.c1 (h : Hp w k s fb ft) : w.cell? ⟨k.p, 1, none⟩ = some (.int .i64 s.ms) := h.cell rfl
theorem Hp.c2 (h : Hp w k s fb ft) : w.cell? ⟨k.p, 2, none⟩ = some (.slice (some ⟨k.g, 0, none⟩) s.nd.length k.c) := h.cell rfl
theorem Hp.c3 (h : Hp w k s fb ft) : w.cell? ⟨k.p, 3, none⟩ = some (.map (some k.bm)) := h.cell rfl
theorem Hp.c4 (h : Hp w k s fb ft) : w.cell? ⟨k.p, 4, none⟩ = some (.map (some k.it)) := h.cell rfl
theorem Hp.c5 (h : Hp w k s fb ft) : w.cell? ⟨k.p, 5, none⟩ = some (.map (some k.gi)) := h.cell rfl
theorem Hp.c6 (h : Hp w k s fb ft) : w.cell? ⟨k.p, 6, none⟩ = some (.map (some k.he)) := h.cell rfl
theorem Hp.frozen (h : Hp w k s fb ft) (j : Nat) : w.frozen? ⟨k.p, j, none⟩ = false := frozen_heap h.p
theorem Hp.node (h : Hp w k s fb ft) {i : Nat} {x : Nd} (hi : s.nd[i]? = some x) : w.cell? ⟨k.g, i * 3, none⟩ = some (.int .i32 x.1) ∧ w.cell? ⟨k.g, i * 3 + 1, none⟩ = some (.int .i32 x.2.1) ∧ w.cell? ⟨k.g, i * 3 + 2, none⟩ = some (.int .i32 x.2.2) := by
  have hlt := lt_of_some hi
  have hc := cellsN_get hi
  have := fun j hj => h.v.cellAt j hj
  exact ⟨(this _ (by omega)).trans hc.1, (this _ (by omega)).trans hc.2.1, (this _ (by omega)).trans hc.2.2⟩
end Go.Proofs.Ytgfjdkkfgclhjaa.Bd
