/- The reader of statements: next, off, fail. -/
import Derived.Test.YtihmmmodimionaaTA
import Derived.Test.YtihmmmodimionaaRG
import Derived.Test.YtihmmmodimionaaJ
namespace Go.Proofs.Ytihmmmodimionaa.Tr
open Go.RowKit Go.Proofs.Ytihmmmodimionaa Go.Proofs.Ytihmmmodimionaa.Lx

def kindT : List BTok → Int
  | [] => 0
  | t :: _ => t.k
theorem TokS.head {w : World} {A : Option Addr} {c : Nat} {t : BTok} {ts : List BTok} (h : TokS w A c (t :: ts)) : ∃ ad, A = some ad ∧ w.cell? ad = some (.int .u8 t.k) ∧ w.cell? ⟨ad.block, ad.off + 1, none⟩ = some (.string t.b) ∧ w.cell? ⟨ad.block, ad.off + 2, none⟩ = some (.int .i64 t.l) ∧ w.cell? ⟨ad.block, ad.off + 3, none⟩ = some (.int .i64 t.c) := by
  obtain ⟨h1, ⟨_, h2, _⟩ | ⟨ad, h2, h3⟩⟩ := h
  · simp at h2
  · exact ⟨ad, h2, h3 0 _ rfl, h3 1 _ rfl, h3 2 _ rfl, h3 3 _ rfl⟩
theorem RdX.below {w w' : World} {p : Nat} {A : Option Addr} {cap : Nat} {ts : List BTok} {e l c : Int} (h : RdX w p A cap ts e l c) (hb : Below w.heap.size w w') : RdX w' p A cap ts e l c := ⟨heapB hb h.h, h.t.below hb, h.lt, h.cp, h.cm, h.kz⟩
set_option maxRecDepth 100000 in
theorem next_any (p : Nat) (A : Option Addr) (cap : Nat) (ts : List BTok) (e l c : Int) (w : World) (h : RdX w p A cap ts e l c) (hl : ts.length ≤ 100000) :
    Calls Try.prog 60 #[.pointer (some ⟨p, 0, none⟩)] w fun e' w' => e' = .returned (.int .u8 (kindT ts)) ∧ w = w' := by
  have p0 := cell_heap (j := 0) h.h rfl
  have ht := h.t
  clear h
  cases ts with
  | nil =>
    clear ht
    go_enter Try.func60, Try.ntmps60
    go_wp2_with fail
    go_ret
    exact ⟨rfl, rfl⟩
  | cons t ts =>
    obtain ⟨ad, rfl, q0, q1, q2, q3⟩ := ht.head
    have d0 : ((0 : Int) < ((ts.length + 1 : Nat) : Int)) := by omega
    have d1 : (((ts.length + 1 : Nat) : Int) == 0) = false := by simp; omega
    have d2 : ((0 : Int) < (ts.length : Int) + 1) := by omega
    have d3 : ((ts.length : Int) + 1 == 0) = false := by simp; omega
    clear ht
    rw [List.length_cons] at p0
    go_enter Try.func60, Try.ntmps60
    go_wp2_with fail
    go_ret
    exact ⟨rfl, rfl⟩
abbrev BTok.val (t : BTok) : Value := .agg #[.int .u8 t.k, .string t.b, .int .i64 t.l, .int .i64 t.c]
def OffOut (p cap : Nat) (t : BTok) (ts : List BTok) (e l c : Int) (w : World) (e' : Ending) (w' : World) : Prop :=
  e' = .returned (BTok.val t) ∧ Only p w w' ∧ ∃ A', RdX w' p A' (cap - 1) ts e l c
set_option maxRecDepth 100000 in
theorem off_any (p : Nat) (A : Option Addr) (cap : Nat) (t : BTok) (ts : List BTok) (e l c : Int) (w : World) (h : RdX w p A cap (t :: ts) e l c) (hl : ts.length ≤ 100000) (hcm : cap ≤ maxLen) :
    Calls Try.prog 62 #[.pointer (some ⟨p, 0, none⟩)] w (OffOut p cap t ts e l c w) := by
  have hp := lt_heap h.h
  obtain ⟨ad, rfl, q0, q1, q2, q3⟩ := h.t.head
  have hadp := h.lt ad rfl
  have p0 := cell_heap (j := 0) h.h rfl
  rw [List.length_cons] at p0
  have HH := hide h
  clear h
  have d0 : ((0 : Int) < ((ts.length + 1 : Nat) : Int)) := by omega
  have d2 : ((0 : Int) < (ts.length : Int) + 1) := by omega
  have hcp : ts.length + 1 ≤ cap := HH.out.cp
  have b0 := fun (o : Obj) => cellB (bel_one w o) q0
  have b1 := fun (o : Obj) => cellB (bel_one w o) q1
  have b2 := fun (o : Obj) => cellB (bel_one w o) q2
  have b3 := fun (o : Obj) => cellB (bel_one w o) q3
  have hsp : ad.spot = none := World.cell?_spot q0
  obtain ⟨bk, of, sp⟩ := ad
  cases hsp
  have f0 := frozen_heap (j := 0) HH.out.h
  have hbp : bk ≠ p := by have : bk < p := hadp; omega
  have fin : ∀ (A' : Option Addr), TokS w A' (cap - 1) ts → (∀ a, A' = some a → a.block = bk) →
      OffOut p cap t ts e l c w (.returned (BTok.val t)) (((w.setCell ⟨p, 0, none⟩ (.slice A' ts.length (cap - 1))).alloc (Obj.cells #[.int .u8 t.k, .string t.b, .int .i64 t.l, .int .i64 t.c] 34)).alloc (Obj.cells #[.int .u8 t.k, .string t.b, .int .i64 t.l, .int .i64 t.c] 34)) := by
    intro A' hA' hb'
    have ho : Only p w (((w.setCell ⟨p, 0, none⟩ (.slice A' ts.length (cap - 1))).alloc (Obj.cells #[.int .u8 t.k, .string t.b, .int .i64 t.l, .int .i64 t.c] 34)).alloc (Obj.cells #[.int .u8 t.k, .string t.b, .int .i64 t.l, .int .i64 t.c] 34)) := only_alloc (only_alloc (only_set (only_refl p w) 0 _) _) _
    refine ⟨rfl, ho, A', ⟨?_, ?_, fun a ha => by rw [hb' a ha]; exact hadp, by omega, by omega, fun x hx => HH.out.kz x (List.mem_cons_of_mem _ hx)⟩⟩
    · have := heap_set (j := 0) (u := .slice A' ts.length (cap - 1)) HH.out.h
      exact heap_old (heap_old this)
    · refine src_keep hA' (fun a ha => ?_)
      have h1 : a.block < w.heap.size := by rw [hb' a ha]; exact Nat.lt_trans hadp hp
      exact ho.block a.block h1 (fun e => by
        injection e with e
        exact hbp (by rw [← hb' a ha, e]))
  have ht4 : TokS w (some ⟨bk, of + 4, none⟩) (cap - 1) ts := by
    obtain ⟨h1, ⟨_, h2, _⟩ | ⟨ad', h2, h3⟩⟩ := HH.out.t
    · simp at h2
    · cases h2
      refine ⟨by rw [flat_len], .inr ⟨_, rfl, fun j u hj => ?_⟩⟩
      have := h3 (j + 4) u (by rw [List.flatMap_cons, List.getElem?_append_right (by simp [BTok.cells])]; simpa [BTok.cells] using hj)
      have e1 : (⟨bk, of, none⟩ : Addr).add (j + 4) = (⟨bk, of + 4, none⟩ : Addr).add j := by
        cases j with
        | zero => rfl
        | succ j => simp [Addr.add]; omega
      rw [← e1]
      exact this
  have FIN := hide fin
  have HT4 := hide ht4
  clear fin ht4
  by_cases hc1 : cap = 1
  · have h0 : ts.length = 0 := by omega
    have hnil := List.eq_nil_of_length_eq_zero h0
    subst hnil
    subst hc1
    have ht0 : TokS w (some ⟨bk, of, none⟩) (1 - 1) [] := ⟨rfl, .inr ⟨_, rfl, fun j u hj => by simp at hj⟩⟩
    have HF := hide (FIN.out _ ht0 (fun a ha => by cases ha; rfl))
    clear ht0
    go_enter Try.func62, Try.ntmps62
    go_wp2_with fail
    refine bodyPost_ret (v := BTok.val t) (by simp [results, Try.results62, go_sem, BTok.val]) rfl ?_
    exact HF.out
  · have HF := hide (FIN.out _ HT4.out (fun a ha => by cases ha; rfl))
    have hcc : (cap == 1) = false := by simpa using hc1
    have hcd : decide (cap = 1) = false := by simpa using hc1
    go_enter Try.func62, Try.ntmps62
    go_wp2_with fail
    refine bodyPost_ret (v := BTok.val t) (by simp [results, Try.results62, go_sem, BTok.val]) rfl ?_
    exact HF.out
theorem only_of {p : Nat} {w w1 w2 : World} (h : Only p w w1) (hb : Below w1.heap.size w1 w2) : Only p w w2 := only_trans h (only_of_below hb)
set_option maxRecDepth 100000 in
theorem fail_any (p : Nat) (A : Option Addr) (cap : Nat) (ts : List BTok) (e l c : Int) (w : World) (h : RdX w p A cap ts 0 0 0) :
    Calls Try.prog 61 #[.pointer (some ⟨p, 0, none⟩), .int .i64 e, .agg #[.int .i64 l, .int .i64 c]] w fun e' w' => e' = .returned (.tuple #[]) ∧ Only p w w' ∧ RdX w' p A cap ts e l c := by
  have hp := lt_heap h.h
  have p1 := cell_heap (j := 1) h.h rfl
  have p2 := cell_heap (j := 2) h.h rfl
  have p3 := cell_heap (j := 3) h.h rfl
  have f1 := frozen_heap (j := 1) h.h
  have f2 := frozen_heap (j := 2) h.h
  have f3 := frozen_heap (j := 3) h.h
  have HH := hide h
  clear h
  go_enter Try.func61, Try.ntmps61
  go_wp2_with fail
  go_region
  go_wp2_with fail
  go_end0
  refine ⟨rfl, only_drew (only_alloc (only_set (only_set (only_set (only_refl p w) 1 _) 2 _) 3 _) _), ?_, ?_, HH.out.lt, HH.out.cp, HH.out.cm, HH.out.kz⟩
  · have h3 := heap_set (j := 3) (u := .int .i64 c) (heap_set (j := 2) (u := .int .i64 l) (heap_set (j := 1) (u := .int .i64 e) HH.out.h))
    exact heap_old (w := ((w.setCell ⟨p, 1, none⟩ (.int .i64 e)).setCell ⟨p, 2, none⟩ (.int .i64 l)).setCell ⟨p, 3, none⟩ (.int .i64 c)) h3
  · refine src_keep HH.out.t (fun a ha => ?_)
    have h1 := HH.out.lt a ha
    exact (only_drew (only_alloc (only_set (only_set (only_set (only_refl p w) 1 _) 2 _) 3 _) _)).block a.block (by omega) (fun e => by injection e with e; omega)
end Go.Proofs.Ytihmmmodimionaa.Tr
