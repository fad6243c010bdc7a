import Derived.Test.YtopckpjhdbjmbaaH
namespace Go.Proofs.Ytopckpjhdbjmbaa.Ld
open Go.RowKit

/-- A row of the call's own: n elements of 'size' cells, cell j holds 'f j'. -/
def RowF (w : World) (base : Nat) (t : TypeId) (A : Option Addr) (n size : Nat) (f : Nat → Value) : Prop :=
  0 < n → ∃ g cur, A = some ⟨g, 0, none⟩ ∧ base ≤ g ∧ w.heap[g]? = some (.cells cur t (0, 0)) ∧ ∀ j, j < n * size → cur[j]? = some (f j)
theorem lt_heap {w : World} {g : Nat} {o : Obj} (h : w.heap[g]? = some o) : g < w.heap.size := by
  rcases Nat.lt_or_ge g w.heap.size with h1 | h1
  · exact h1
  · rw [Array.getElem?_eq_none h1] at h; cases h
theorem heapB {W w1 : World} {g : Nat} {o : Obj} (hb : Below W.heap.size W w1) (h : W.heap[g]? = some o) : w1.heap[g]? = some o := (hb.block g (lt_heap h)).trans h
theorem cell_heap {w : World} {g j : Nat} {cur : Array Value} {t : TypeId} {u : Value} (h : w.heap[g]? = some (.cells cur t (0, 0))) (hj : cur[j]? = some u) : w.cell? ⟨g, j, none⟩ = some u := by
  simp [World.cell?, h, hj]
theorem frozen_heap {w : World} {g j : Nat} {cur : Array Value} {t : TypeId} (h : w.heap[g]? = some (.cells cur t (0, 0))) : w.frozen? ⟨g, j, none⟩ = false := by
  simp [World.frozen?, h]
theorem heap_far {w : World} {g : Nat} {o : Obj} {p : Addr} {u : Value} (h : w.heap[g]? = some o) (hp : g ≠ p.block) : (w.setCell p u).heap[g]? = some o := (Below.heap_setCell w p u g hp).trans h
theorem heap_set {w : World} {g j : Nat} {cur : Array Value} {t : TypeId} {u : Value} (h : w.heap[g]? = some (.cells cur t (0, 0))) : (w.setCell ⟨g, j, none⟩ u).heap[g]? = some (.cells (cur.setIfInBounds j u) t (0, 0)) := by
  simp [World.setCell, Array.getElem?_modify, h]
theorem heap_ne {w : World} {g g' : Nat} {cur cur' : Array Value} {t t' : TypeId} (h : w.heap[g]? = some (.cells cur t (0, 0))) (h' : w.heap[g']? = some (.cells cur' t' (0, 0))) (hne : t ≠ t') : g ≠ g' := by
  rintro rfl
  rw [h] at h'
  injection h' with h'
  injection h' with _ ht
  exact hne ht
section
variable {w w' : World} {base : Nat} {t : TypeId} {A : Option Addr} {n size : Nat} {f : Nat → Value}
theorem RowF.below (h : RowF w base t A n size f) (hb : Below w.heap.size w w') : RowF w' base t A n size f := fun hn => by
  obtain ⟨g, cur, hA, hg, hh, hc⟩ := h hn
  exact ⟨g, cur, hA, hg, heapB hb hh, hc⟩
theorem RowF.of_own {A : Option Addr} {c : Nat} {xs : List Value} (h : w.ownsRow base t size (.slice A n c) n xs) (hx : ∀ j, j < n * size → xs[j]? = some (f j)) : RowF w base t A n size f := fun hn => by
  obtain ⟨hl, h2 | ⟨g, cap, cur, hv, hg, hh, hnc, hcm, hsz, htk⟩⟩ := h
  · omega
  · have hA : A = some ⟨g, 0, none⟩ := by injection hv
    refine ⟨g, cur, hA, hg, hh, fun j hj => ?_⟩
    have := hx j hj
    rw [← htk, List.getElem?_take_of_lt hj] at this
    simpa using this
theorem RowF.cell (h : RowF w base t A n size f) (hn : 0 < n) : ∃ g, A = some ⟨g, 0, none⟩ ∧ base ≤ g ∧ g < w.heap.size ∧ ∀ j, j < n * size → w.cell? ⟨g, j, none⟩ = some (f j) := by
  obtain ⟨g, cur, hA, hg, hh, hc⟩ := h hn
  exact ⟨g, hA, hg, lt_heap hh, fun j hj => cell_heap hh (hc j hj)⟩
/-- a store into the row itself -/
theorem RowF.set {g : Nat} (h : RowF w base t (some ⟨g, 0, none⟩) n size f) (j : Nat) (u : Value) : RowF (w.setCell ⟨g, j, none⟩ u) base t (some ⟨g, 0, none⟩) n size (fun i => if i = j then u else f i) := fun hn => by
  obtain ⟨g', cur, hA, hg, hh, hc⟩ := h hn
  injection hA with hA
  injection hA with hA
  subst hA
  refine ⟨g, _, rfl, hg, heap_set hh, fun i hi => ?_⟩
  have hci := hc i hi
  have hlt : i < cur.size := by
    rcases Nat.lt_or_ge i cur.size with h1 | h1
    · exact h1
    · rw [Array.getElem?_eq_none h1] at hci; cases hci
  show _ = some (if i = j then u else f i)
  rw [Array.getElem?_setIfInBounds]
  by_cases hij : i = j
  · subst hij; simp [hlt]
  · rw [if_neg (fun e => hij e.symm), if_neg hij]; exact hci
/-- a store into a row of another type -/
theorem RowF.far {g j : Nat} {cur : Array Value} {t' : TypeId} {u : Value} (h : RowF w base t A n size f) (hg : w.heap[g]? = some (.cells cur t' (0, 0))) (hne : t ≠ t') : RowF (w.setCell ⟨g, j, none⟩ u) base t A n size f := fun hn => by
  obtain ⟨g', cur', hA, hb, hh, hc⟩ := h hn
  exact ⟨g', cur', hA, hb, heap_far hh (heap_ne hh hg hne), hc⟩
end

def EntF (f : Nat → Value) (n : Nat) (E : Nat → Ent) : Prop := ∀ i, i < n → f (i * 5) = .bool (E i).pm ∧ f (i * 5 + 1) = .int .u32 (E i).c ∧ f (i * 5 + 2) = .int .i64 (E i).d ∧ f (i * 5 + 3) = .int .i64 (E i).ge ∧ f (i * 5 + 4) = .int .i64 (E i).le ∧ 0 ≤ (E i).c ∧ (E i).c ≤ 4294967295
theorem EntF.ents {w : World} {base : Nat} {t : TypeId} {A : Option Addr} {n : Nat} {f : Nat → Value} {E : Nat → Ent} (hf : EntF f n E) (h : RowF w base t A n 5 f) : Ents w A n E := fun i hi => by
  obtain ⟨g, hA, _, _, hc⟩ := h.cell (by omega)
  obtain ⟨e0, e1, e2, e3, e4, e5⟩ := hf i hi
  refine ⟨g, 0, hA, ?_, ?_, ?_, ?_, ?_, e5⟩
  · rw [← e0, Nat.zero_add]; exact hc _ (by omega)
  · rw [← e1, Nat.zero_add]; exact hc _ (by omega)
  · rw [← e2, Nat.zero_add]; exact hc _ (by omega)
  · rw [← e3, Nat.zero_add]; exact hc _ (by omega)
  · rw [← e4, Nat.zero_add]; exact hc _ (by omega)
theorem EntF.set_pm {f : Nat → Value} {n : Nat} {E : Nat → Ent} (hf : EntF f n E) (k : Nat) (x : Bool) : EntF (fun i => if i = k * 5 then .bool x else f i) n (fun i => if i = k then { E i with pm := x } else E i) := fun i hi => by
  obtain ⟨e0, e1, e2, e3, e4, e5⟩ := hf i hi
  by_cases hk : i = k
  · subst hk
    simp [e1, e2, e3, e4]
    exact e5
  · simp only [if_neg hk]
    rw [if_neg (by omega), if_neg (by omega), if_neg (by omega), if_neg (by omega), if_neg (by omega)]
    exact ⟨e0, e1, e2, e3, e4, e5⟩
theorem EntF.set_ge {f : Nat → Value} {n : Nat} {E : Nat → Ent} (hf : EntF f n E) (k : Nat) (x : Int) : EntF (fun i => if i = k * 5 + 3 then .int .i64 x else f i) n (fun i => if i = k then { E i with ge := x } else E i) := fun i hi => by
  obtain ⟨e0, e1, e2, e3, e4, e5⟩ := hf i hi
  by_cases hk : i = k
  · subst hk
    simp [e0, e1, e2, e4]
    exact e5
  · simp only [if_neg hk]
    rw [if_neg (by omega), if_neg (by omega), if_neg (by omega), if_neg (by omega), if_neg (by omega)]
    exact ⟨e0, e1, e2, e3, e4, e5⟩
def MemF (w : World) (f : Nat → Value) (n : Nat) (M : Nat → Mem) : Prop := ∀ i, i < n → f (i * 2) = .bool (M i).pm ∧ f (i * 2 + 1) = .slice (M i).A (M i).n (M i).c ∧ Us w (M i).A (M i).n (M i).z ∧ (M i).n ≤ maxLen
theorem MemF.mems {w : World} {base : Nat} {t : TypeId} {A : Option Addr} {n : Nat} {f : Nat → Value} {M : Nat → Mem} (hf : MemF w f n M) (h : RowF w base t A n 2 f) : Mems w A n M := fun i hi => by
  obtain ⟨g, hA, _, _, hc⟩ := h.cell (by omega)
  obtain ⟨e0, e1, e2⟩ := hf i hi
  refine ⟨g, 0, hA, ?_, ?_, e2⟩
  · rw [← e0, Nat.zero_add]; exact hc _ (by omega)
  · rw [← e1, Nat.zero_add]; exact hc _ (by omega)
theorem MemF.below {w w' : World} {f : Nat → Value} {n : Nat} {M : Nat → Mem} (hf : MemF w f n M) (hb : Below w.heap.size w w') : MemF w' f n M := fun i hi => by
  obtain ⟨e0, e1, e2, e3⟩ := hf i hi
  exact ⟨e0, e1, e2.below hb, e3⟩
theorem MemF.set_pm {w : World} {f : Nat → Value} {n : Nat} {M : Nat → Mem} (hf : MemF w f n M) (k : Nat) (x : Bool) : MemF w (fun i => if i = k * 2 then .bool x else f i) n (fun i => if i = k then { M i with pm := x } else M i) := fun i hi => by
  obtain ⟨e0, e1, e5⟩ := hf i hi
  by_cases hk : i = k
  · subst hk
    simp [e1]
    exact e5
  · simp only [if_neg hk]
    rw [if_neg (by omega), if_neg (by omega)]
    exact ⟨e0, e1, e5⟩
def UF (f : Nat → Value) (n : Nat) (z : Nat → Int) : Prop := ∀ i, i < n → f i = .int .u32 (z i)
theorem UF.us {w : World} {base : Nat} {t : TypeId} {A : Option Addr} {n : Nat} {f : Nat → Value} {z : Nat → Int} (hf : UF f n z) (h : RowF w base t A n 1 f) : Us w A n z := fun i hi => by
  obtain ⟨g, hA, _, _, hc⟩ := h.cell (by omega)
  exact ⟨g, 0, hA, by rw [← hf i hi, Nat.zero_add]; exact hc _ (by omega)⟩
end Go.Proofs.Ytopckpjhdbjmbaa.Ld
