/- What the claim leans on, part 5 of 15: TEL. -/
import Derived.Deep.CutBlock
import Derived.Deep.DeepCutAuto
import Derived.Test.YtihmmmodimionaaBa01
import Derived.Test.YtihmmmodimionaaBa02
import Derived.Test.YtihmmmodimionaaBa03
import Derived.Test.YtihmmmodimionaaBa04
/- The reader of statements: words on what statement does. -/
namespace Go.Proofs.Ytihmmmodimionaa.Tr
open Go.RowKit Go.Proofs.Ytihmmmodimionaa Go.Proofs.Ytihmmmodimionaa.Lx

/-- statement, ahead of its switch: the first place, the words, the leaves -/
structure SB (p : Nat) (w wr : World) (b5 b6 : Nat) (first : Pl) (n : List BTok) (vw vp va : Value) (all : Fo) (xs : List Value) (B : Nat → Prop) (A : Option Addr) (cap : Nat) (ts : List BTok) : Prop where
  o : Only p w wr
  h5 : w.heap.size ≤ b5
  h6 : w.heap.size ≤ b6
  f5 : wr.heap[b5]? = some (.cells #[.int .i64 first.1, .int .i64 first.2] 24 (0, 0))
  n6 : wr.heap[b6]? = some (.cells #[vw, vp, .bool false, .slice none 0 0] 44 (0, 0))
  ow : wr.ownsRow w.heap.size 9 1 vw n.length (n.map fun (t : BTok) => Value.string t.b)
  op : wr.ownsRow w.heap.size 24 2 vp n.length (posC (n.map BTok.pos))
  al : LoS w wr va all xs B
  r : RdX wr p A cap ts 0 0 0
/-- .. and the words between the signs -/
structure SI (p : Nat) (w wr : World) (b5 b6 b8 : Nat) (first : Pl) (n m : List BTok) (vw vp iw ip va : Value) (all : Fo) (xs : List Value) (B : Nat → Prop) (A : Option Addr) (cap : Nat) (ts : List BTok) : Prop where
  s : SB p w wr b5 b6 first n vw vp va all xs B A cap ts
  n8 : wr.heap[b8]? = some (.cells #[iw, ip, .bool false, .slice none 0 0] 44 (0, 0))
  iw : wr.ownsRow w.heap.size 9 1 iw m.length (m.map fun (t : BTok) => Value.string t.b)
  ip : wr.ownsRow w.heap.size 24 2 ip m.length (posC (m.map BTok.pos))
theorem own_lt {w : World} {base n size : Nat} {e : TypeId} {v : Value} {xs : List Value} (h : w.ownsRow base e size v n xs) {b : Nat} (hb : v.ownBlock = some b) : base ≤ b ∧ b < w.heap.size := h.lt b hb
/-- a statement of its own, laid in a new row -/
theorem lo_node {w x : World} {n : List BTok} {Aw Ap A : Option Addr} {cw cp c : Nat} {K : Fo} {ys : List Value} {D : Nat → Prop} (b : Bool) (hx : w.heap.size ≤ x.heap.size) (how : x.ownsRow w.heap.size 9 1 (.slice Aw n.length cw) n.length (n.map fun (t : BTok) => Value.string t.b)) (hop : x.ownsRow w.heap.size 24 2 (.slice Ap n.length cp) n.length (posC (n.map BTok.pos))) (hk : LoS w x (.slice A K.len c) K ys D) :
    LoS w (x.alloc (NodeC (.slice Aw n.length cw) (.slice Ap n.length cp) b (.slice A K.len c))) (.slice (some ⟨x.heap.size, 0, none⟩) 1 1) (.cons (n.map BTok.b) (n.map BTok.pos) b K .nil) [.slice Aw n.length cw, .slice Ap n.length cp, .bool b, .slice A K.len c] (fun q => (Value.slice Aw n.length cw).ownBlock = some q ∨ (Value.slice Ap n.length cp).ownBlock = some q ∨ (Value.slice A K.len c).ownBlock = some q ∨ D q) := by
  have hbl := bel_one x (NodeC (.slice Aw n.length cw) (.slice Ap n.length cp) b (.slice A K.len c))
  have hlt : ∀ q, ((Value.slice Aw n.length cw).ownBlock = some q ∨ (Value.slice Ap n.length cp).ownBlock = some q ∨ (Value.slice A K.len c).ownBlock = some q ∨ D q) → w.heap.size ≤ q ∧ q < x.heap.size := by
    rintro q (h | h | h | h)
    · exact own_lt how h
    · exact own_lt hop h
    · exact own_lt hk.own h
    · exact ⟨(hk.hB q h).1, (hk.hB q h).2.1⟩
  have hz : (n.map fun (t : BTok) => Value.string t.b).length = n.length := List.length_map _
  refine ⟨⟨⟨rfl, .inr ⟨x.heap.size, 1, _, rfl, hx, heap_new x _, Nat.le_refl _, by decide, rfl, rfl⟩⟩, ?_, fun q hq => ⟨(hlt q hq).1, by simp; have := (hlt q hq).2; omega, fun e => ?_⟩⟩, ⟨_, _, _, _, ys, [], _, _, rfl, ⟨by rw [List.length_map]; exact (own_base how (Nat.zero_le _)).alloc _, fun g e => .inl e⟩, ⟨by rw [List.length_map]; exact (own_base hop (Nat.zero_le _)).alloc _, fun g e => .inr (.inl e)⟩, ⟨(own_base hk.own (Nat.zero_le _)).alloc _, fun g e => .inr (.inr (.inl e))⟩, (hk.fs.keep (fun q hq => hbl.block q (hk.hB q hq).2.1)).mono (fun q hq => .inr (.inr (.inr hq))), rfl⟩⟩
  · refine ⟨_, _, A, c, ys, [], rfl, ⟨Aw, cw, by rw [List.length_map], ?_, fun a ha => ⟨.inl (by rw [ha]; rfl), by rw [List.length_map]; exact (own_caps how).1⟩⟩, ⟨Ap, cp, by rw [List.length_map], ?_, fun a ha => .inr (.inl (by rw [ha]; rfl))⟩, (own_src hk.own).below hbl, fun a ha => .inr (.inr (.inl (by rw [ha]; rfl))), (hk.fo.keep (fun q hq => hbl.block q (hk.hB q hq).2.1)).mono (fun q hq => .inr (.inr (.inr hq))), rfl⟩
    · rw [List.length_map, List.map_map]
      exact (own_src how).below hbl
    · rw [List.length_map]
      exact (own_src hop).below hbl
  · have h2 := (hlt q hq).2
    have e' : x.heap.size = q := by injection e
    omega
theorem own_only {p : Nat} {x x' : World} {base n size : Nat} {e : TypeId} {v : Value} {xs : List Value} (h : x.ownsRow base e size v n xs) (ho : Only p x x') (hp : p < base) : x'.ownsRow base e size v n xs := h.kept ho (by
  cases hv : v.ownBlock with
  | none => exact .inl rfl
  | some g => exact .inr (fun e => by have := (h.lt g hv).1; injection e with e; omega))
theorem only_grow {p b6 : Nat} {w x y : World} (h : Only p w x) (h2 : x.grownBy y (some b6)) (hb : w.heap.size ≤ b6) : Only p w y := by
  refine ⟨h2.os.trans h.os, h2.tape.trans h.tape, h2.output.trans h.output, Nat.le_trans h.size h2.size, fun i hi hne => ?_⟩
  rw [h2.block i (Nat.lt_of_lt_of_le hi h.size) (fun e => by injection e with e; omega)]
  exact h.block i hi hne
theorem only_of_big {p b6 : Nat} {w x y z : World} (h : Only p w x) (h2 : x.grownBy y (some b6)) (h3 : Only p y z) (hb : w.heap.size ≤ b6) (_hp : p < w.heap.size) : Only p w z := by
  refine only_trans ⟨h2.os.trans h.os, h2.tape.trans h.tape, h2.output.trans h.output, Nat.le_trans h.size h2.size, fun i hi hne => ?_⟩ h3
  rw [h2.block i (Nat.lt_of_lt_of_le hi h.size) (fun e => by injection e with e; omega)]
  exact h.block i hi hne
theorem only_row {p : Nat} {w wr : World} (h : Only p w wr) (o : Obj) : Only p w (wr.alloc o) := only_alloc h o
theorem SB.only {p : Nat} {w wr w' : World} {b5 b6 : Nat} {first : Pl} {n : List BTok} {vw vp va : Value} {all : Fo} {xs : List Value} {B : Nat → Prop} {A A' : Option Addr} {cap cap' : Nat} {ts ts' : List BTok} (h : SB p w wr b5 b6 first n vw vp va all xs B A cap ts) (hp : p < w.heap.size) (ho : Only p wr w') (hr : RdX w' p A' cap' ts' 0 0 0) : SB p w w' b5 b6 first n vw vp va all xs B A' cap' ts' :=
  ⟨only_trans h.o ho, h.h5, h.h6, only_heap ho h.f5 (by have := h.h5; omega), only_heap ho h.n6 (by have := h.h6; omega), own_only h.ow ho hp, own_only h.op ho hp, h.al.grow ho (fun b e => by injection e with e; omega), hr⟩
theorem grown_of_below {w w' : World} (h : Below w.heap.size w w') : w.grownBy w' none := ⟨h.os, h.tape, h.output, h.size, fun i hi _ => h.block i hi⟩
theorem own_belw {x x' : World} {base n size : Nat} {e : TypeId} {v : Value} {xs : List Value} (h : x.ownsRow base e size v n xs) (hb : Below x.heap.size x x') : x'.ownsRow base e size v n xs := h.kept (grown_of_below hb) (by
  cases hv : v.ownBlock with
  | none => exact .inl rfl
  | some g => exact .inr (fun e => by cases e))
theorem posC_get : ∀ (ps : List Pl) (i : Nat) (q : Pl), ps[i]? = some q → (posC ps)[i * 2]? = some (.int .i64 q.1) ∧ (posC ps)[i * 2 + 1]? = some (.int .i64 q.2)
  | [], i, q, h => by simp at h
  | x :: xs, 0, q, h => by
    obtain rfl : x = q := by simpa using h
    exact ⟨rfl, rfl⟩
  | x :: xs, i + 1, q, h => by
    have := posC_get xs i q (by simpa using h)
    have e : posC (x :: xs) = .int .i64 x.1 :: .int .i64 x.2 :: posC xs := rfl
    rw [e, show (i + 1) * 2 = i * 2 + 1 + 1 by omega]
    exact this
/-- the copies that the loop makes -/
theorem clone_words (ws : List BTok) {base : Nat} {v : Value} (x : World) (h : x.ownsRow base 9 1 v ws.length (ws.map fun (t : BTok) => Value.string t.b)) (h1 : 1 ≤ ws.length) (h2 : ws.length ≤ 100000) :
    Calls Try.prog 68 #[v] x fun e x' => ∃ v', e = .returned v' ∧ x'.ownsRow x.heap.size 9 1 v' ws.length (ws.map fun (t : BTok) => Value.string t.b) ∧ Below x.heap.size x x' := by
  obtain ⟨g, c, rfl, _, _⟩ := own_some h h1
  refine (Try.slices_Clone_string g 0 ws.length c (ws.map BTok.b) x (by simp) (by omega) ?_).mono ?_
  · intro j hj
    rw [List.length_map] at hj
    have := own_cells h j (.string ws[j].b) (by rw [List.getElem?_map, List.getElem?_eq_getElem hj]; rfl)
    rw [show (⟨g, 0, none⟩ : Addr).add j = ⟨g, 0 + j, none⟩ by simp [Addr.add, eq_comm]] at this
    rw [this]
    simp [List.getD_eq_getElem?_getD, hj]
  · rintro e x' ⟨v', rfl, ho, _, hb⟩
    refine ⟨v', rfl, ?_, hb⟩
    have e : ((ws.map BTok.b).take ws.length).map Value.string = ws.map fun (t : BTok) => Value.string t.b := by
      rw [List.take_of_length_le (by simp), List.map_map]; rfl
    rw [e] at ho
    exact ho
theorem clone_pos (ws : List BTok) {base : Nat} {v : Value} (x : World) (h : x.ownsRow base 24 2 v ws.length (posC (ws.map BTok.pos))) (h1 : 1 ≤ ws.length) (h2 : ws.length ≤ 100000) :
    Calls Try.prog 69 #[v] x fun e x' => ∃ v', e = .returned v' ∧ x'.ownsRow x.heap.size 24 2 v' ws.length (posC (ws.map BTok.pos)) ∧ Below x.heap.size x x' := by
  obtain ⟨g, c, rfl, _, _⟩ := own_some h h1
  obtain ⟨qi, qz0, qz, qs, qb⟩ := info_parts infoP
  refine (AnyE.slices_Clone Try.laysClonePos qi _ 2 16 qz0 qz qs qb rfl (by decide) Try.sizeOf24 g 0 ws.length c (posC (ws.map BTok.pos)) x (by rw [posC_len, List.length_map]) (by unfold maxLen; omega) (by omega) ?_ ?_).mono ?_
  · intro j u hj
    have := own_cells h j u hj
    rw [show (⟨g, 0, none⟩ : Addr).add j = ⟨g, 0 + j, none⟩ by simp [Addr.add, eq_comm]] at this
    exact this
  · intro u hu
    unfold posC at hu
    obtain ⟨q, _, hq⟩ := List.mem_flatMap.1 hu
    simp at hq
    rcases hq with rfl | rfl <;> rfl
  · rintro e x' ⟨v', rfl, ho, _, hb⟩
    exact ⟨v', rfl, ho, hb⟩
/-- the drawn region in the loop over the words between the signs: what is loaded -/
structure DS (b6 b8 : Nat) (vw vp iw ip : Value) (g j : Nat) (u : BTok) (x : World) : Prop where
  n6 : x.heap[b6]? = some (.cells #[vw, vp, .bool false, .slice none 0 0] 44 (0, 0))
  n8 : x.heap[b8]? = some (.cells #[iw, ip, .bool false, .slice none 0 0] 44 (0, 0))
  c0 : x.cell? ⟨g, j * 2, none⟩ = some (.int .i64 u.l)
  c1 : x.cell? ⟨g, j * 2 + 1, none⟩ = some (.int .i64 u.c)
theorem DS.below {b6 b8 g j : Nat} {vw vp iw ip : Value} {u : BTok} {w x : World} (h : DS b6 b8 vw vp iw ip g j u w) (hg : g < w.heap.size) (hb : Below w.heap.size w x) : DS b6 b8 vw vp iw ip g j u x :=
  ⟨(hb.block _ (lt_heap h.n6)).trans h.n6, (hb.block _ (lt_heap h.n8)).trans h.n8, (cell_block (a := ⟨g, j * 2, none⟩) (hb.block g hg)).trans h.c0, (cell_block (a := ⟨g, j * 2 + 1, none⟩) (hb.block g hg)).trans h.c1⟩
/-- .. and what stands at the world x: the copies so far -/
structure Dz (wr x : World) (b6 b8 : Nat) (vw vp iw ip : Value) (g j : Nat) (u : BTok) (cw : Value) (dw : List BTok) (cp : Value) (dp : List BTok) : Prop where
  b : Below wr.heap.size wr x
  s0 : DS b6 b8 vw vp iw ip g j u wr
  lt : g < wr.heap.size
  ow : x.ownsRow wr.heap.size 9 1 cw dw.length (dw.map fun (t : BTok) => Value.string t.b)
  op : x.ownsRow wr.heap.size 24 2 cp dp.length (posC (dp.map BTok.pos))
section
variable {wr x x' : World} {b6 b8 g j : Nat} {vw vp iw ip cw cp v' : Value} {u : BTok} {dw dp : List BTok}
theorem Dz.s (h : Dz wr x b6 b8 vw vp iw ip g j u cw dw cp dp) : DS b6 b8 vw vp iw ip g j u x := h.s0.below h.lt h.b
theorem Dz.alloc (h : Dz wr x b6 b8 vw vp iw ip g j u cw dw cp dp) (o : Obj) : Dz wr (x.alloc o) b6 b8 vw vp iw ip g j u cw dw cp dp := ⟨h.b.alloc h.b.size o, h.s0, h.lt, h.ow.alloc o, h.op.alloc o⟩
theorem Dz.bel (h : Dz wr x b6 b8 vw vp iw ip g j u cw dw cp dp) (hb : Below x.heap.size x x') : Below wr.heap.size wr x' :=
  ⟨hb.os.trans h.b.os, hb.tape.trans h.b.tape, hb.output.trans h.b.output, Nat.le_trans h.b.size hb.size, fun i hi => (hb.block i (Nat.lt_of_lt_of_le hi h.b.size)).trans (h.b.block i hi)⟩
theorem Dz.cloneS (h : Dz wr x b6 b8 vw vp iw ip g j u (.slice none 0 0) [] cp dp) (ho : x'.ownsRow x.heap.size 9 1 v' dw.length (dw.map fun (t : BTok) => Value.string t.b)) (hb : Below x.heap.size x x') : Dz wr x' b6 b8 vw vp iw ip g j u v' dw cp dp :=
  ⟨h.bel hb, h.s0, h.lt, own_base ho h.b.size, own_belw h.op hb⟩
theorem Dz.cloneP (h : Dz wr x b6 b8 vw vp iw ip g j u cw dw (.slice none 0 0) []) (ho : x'.ownsRow x.heap.size 24 2 v' dp.length (posC (dp.map BTok.pos))) (hb : Below x.heap.size x x') : Dz wr x' b6 b8 vw vp iw ip g j u cw dw v' dp :=
  ⟨h.bel hb, h.s0, h.lt, own_belw h.ow hb, own_base ho h.b.size⟩
theorem Dz.str (h : Dz wr x b6 b8 vw vp iw ip g j u cw dw cp dp) (q : BTok) {n : Nat} (hn : n = dw.length + 1) (ho : x'.ownsRow wr.heap.size 9 1 v' n ((dw.map fun (t : BTok) => Value.string t.b) ++ [.string q.b])) (hg : x.grownBy x' cw.ownBlock) : Dz wr x' b6 b8 vw vp iw ip g j u v' (dw ++ [q]) cp dp := by
  subst hn
  refine ⟨h.b.grown hg h.b.size (fun k e => (h.ow.lt k e).1), h.s0, h.lt, by rw [List.length_append, List.map_append]; exact ho, h.op.kept hg ?_⟩
  cases hv : cp.ownBlock with
  | none => exact .inl rfl
  | some g => exact .inr (fun e => own_types h.op h.ow (by decide) g hv e.symm)
theorem Dz.pos (h : Dz wr x b6 b8 vw vp iw ip g j u cw dw cp dp) (q : BTok) {n : Nat} (hn : n = dp.length + 1) (ho : x'.ownsRow wr.heap.size 24 2 v' n (posC (dp.map BTok.pos) ++ [.int .i64 q.l, .int .i64 q.c])) (hg : x.grownBy x' cp.ownBlock) : Dz wr x' b6 b8 vw vp iw ip g j u cw dw v' (dp ++ [q]) := by
  subst hn
  refine ⟨h.b.grown hg h.b.size (fun k e => (h.op.lt k e).1), h.s0, h.lt, h.ow.kept hg ?_, by rw [List.length_append, List.map_append, posC_app]; exact ho⟩
  cases hv : cw.ownBlock with
  | none => exact .inl rfl
  | some g => exact .inr (fun e => own_types h.ow h.op (by decide) g hv e.symm)
end
/-- a leaf behind the leaves -/
theorem SI.leaf {p : Nat} {w wr x y : World} {b5 b6 b8 : Nat} {first : Pl} {n m : List BTok} {vw vp iw ip va v' : Value} {all : Fo} {xs : List Value} {B : Nat → Prop} {A : Option Addr} {cap : Nat} {ts : List BTok} {u : BTok} {cw cp : Value}
    (h : SI p w wr b5 b6 b8 first n m vw vp iw ip va all xs B A cap ts) (hp : p < w.heap.size) (h68 : b6 ≤ b8) (hv : ∀ g, va.ownBlock = some g → b8 < g) (hb : Below wr.heap.size wr x)
    (hcw : x.ownsRow wr.heap.size 9 1 cw (n ++ [u]).length ((n ++ [u]).map fun (t : BTok) => Value.string t.b)) (hcp : x.ownsRow wr.heap.size 24 2 cp (n ++ [u]).length (posC ((n ++ [u]).map BTok.pos)))
    (ho : y.ownsRow w.heap.size 44 4 v' (all.len + 1) (xs ++ [cw, cp, .bool false, .slice none 0 0])) (hg : (x.alloc (NodeC cw cp false (.slice none 0 0))).grownBy y va.ownBlock) (hk : v'.ownBlock = va.ownBlock ∨ v'.ownBlock = some (x.heap.size + 1)) :
    ∃ B', SI p w y b5 b6 b8 first n m vw vp iw ip v' (all.app (leafs n [u])) (xs ++ [cw, cp, .bool false, .slice none 0 0]) B' A cap ts ∧ ∀ g, v'.ownBlock = some g → b8 < g := by
  have hws := h.s.o.size
  have hbl : Below wr.heap.size wr (x.alloc (NodeC cw cp false (.slice none 0 0))) := hb.alloc hb.size _
  have hsz : (x.alloc (NodeC cw cp false (.slice none 0 0))).heap.size = x.heap.size + 1 := by simp
  have h8 := lt_heap h.n8
  have hor := only_of_below (R := p) hbl
  have hon := only_trans h.s.o hor
  have hal : LoS w (x.alloc (NodeC cw cp false (.slice none 0 0))) va all xs B := h.s.al.grow hor (fun b e => by injection e with e; omega)
  obtain ⟨Aw, dw, rfl⟩ := own_slice hcw
  obtain ⟨Ap, dp, rfl⟩ := own_slice hcp
  have hln := lo_node (w := wr) (K := .nil) (A := none) (c := 0) (ys := []) (D := fun _ => False) false hb.size hcw hcp (los_nil wr x)
  have hap := LoS.app hal hln (fun g e => (h.s.al.own.lt g e).2) hws ho hg (by rw [hsz]; exact hk)
  have hlf : leafs n [u] = .cons ((n ++ [u]).map BTok.b) ((n ++ [u]).map BTok.pos) false .nil .nil := by simp [leafs]
  rw [← hlf] at hap
  have hrow : ∀ g, va.ownBlock = some g → w.heap.size ≤ g := fun g e => (h.s.al.own.lt g e).1
  have hon2 : Only p w y := ⟨hg.os.trans hon.os, hg.tape.trans hon.tape, hg.output.trans hon.output, Nat.le_trans hon.size hg.size, fun i hi hne => by
    rw [hg.block i (Nat.lt_of_lt_of_le hi hon.size) (fun e => by have := hrow i e.symm; omega)]
    exact hon.block i hi hne⟩
  have hbb : ∀ i, i ≤ b8 → y.heap[i]? = wr.heap[i]? := fun i hi => by
    rw [hg.block i (by rw [hsz]; have := hb.size; omega) (fun e => by have := hv i e.symm; omega)]
    exact hbl.block i (by omega)
  have h5 := h.s.h5
  have own2 : ∀ {base size k : Nat} {e : TypeId} {v : Value} {zs : List Value}, wr.ownsRow base e size v k zs → e ≠ 44 → y.ownsRow base e size v k zs := fun {base size k e v zs} hh hne => (own_belw hh hbl).kept hg (by
    cases hvv : v.ownBlock with
    | none => exact .inl rfl
    | some g => exact .inr (fun e' => own_types (own_belw hh hbl) hal.own hne g hvv e'.symm))
  have h5y : y.heap[b5]? = wr.heap[b5]? := by
    rw [hg.block b5 (by rw [hsz]; have := lt_heap h.s.f5; have := hb.size; omega) (fun e => own_ne_row h.s.al.own h.s.f5 (by decide) e.symm)]
    exact hbl.block b5 (lt_heap h.s.f5)
  refine ⟨_, ⟨⟨hon2, h.s.h5, h.s.h6, h5y.trans h.s.f5, (hbb b6 h68).trans h.s.n6, own2 h.s.ow (by decide), own2 h.s.op (by decide), hap, (h.s.r.below hbl).only hg (fun b e => by have := hrow b e; omega)⟩, (hbb b8 (Nat.le_refl _)).trans h.n8, own2 h.iw (by decide), own2 h.ip (by decide)⟩, ?_⟩
  intro g e
  rcases hk with hk | hk
  · exact hv g (by rw [← hk]; exact e)
  · rw [hk] at e
    injection e with e
    have := hb.size
    omega
end Go.Proofs.Ytihmmmodimionaa.Tr
