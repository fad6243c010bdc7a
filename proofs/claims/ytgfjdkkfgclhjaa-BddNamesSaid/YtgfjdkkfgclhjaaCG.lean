/- Count: the walk over a diagram. -/
import Derived.Test.YtgfjdkkfgclhjaaCF
import Derived.Laws.Externs
namespace Go.Proofs.Ytgfjdkkfgclhjaa.Bd
open Go.RowKit Go.Proofs.Ytgfjdkkfgclhjaa Go.Proofs.Ytgfjdkkfgclhjaa.Lx Go.Maps

def z0 : Env := fun _ => false
/-- for how many values, from its own variable on -/
def cntN (ov : List Nat) (t : Nat) (F : Env → Bool) : Cn := ofN (cntL F (fromL ov t) z0)
structure DoneC (S : Nat → Bool) (nd : List Nd) (ov : List Nat) (fd : Int → Option Cn) : Prop where
  d0 : (fd 0).isSome = true
  d1 : (fd 1).isSome = true
  all : ∀ (i : Nat) c, fd i = some c → ∀ t F, Den S nd i t F → c = cntN ov t F
theorem DoneC.put {S : Nat → Bool} {nd : List Nd} {ov : List Nat} {fd : Int → Option Cn} (h : DoneC S nd ov fd) {f : Nat} (h2 : 2 ≤ f) {c : Cn} (hc : ∀ t F, Den S nd f t F → c = cntN ov t F) : DoneC S nd ov (fun x => if x = (f : Int) then some c else fd x) := by
  refine ⟨by rw [if_neg (by omega)]; exact h.d0, by rw [if_neg (by omega)]; exact h.d1, fun i c' hi => ?_⟩
  split at hi
  · rename_i e
    cases hi
    have : i = f := by omega
    subst this
    exact hc
  · exact h.all i c' hi
/-- what the walk has in memory -/
structure Cs (w : World) (p b1 b2 b3 b4 b5 db N : Nat) (sl : Value) (fd : Int → Option Cn) : Prop where
  c1 : w.heap[b1]? = some (.cells #[.map (some db)] 70 (0, 0))
  c2 : w.heap[b2]? = some (.cells #[.pointer (some ⟨p, 0, none⟩)] 24 (0, 0))
  c3 : w.heap[b3]? = some (.cells #[.func (.func 32) #[] #[.pointer (some ⟨b1, 0, none⟩), .pointer (some ⟨b2, 0, none⟩), .pointer (some ⟨b3, 0, none⟩), .pointer (some ⟨b4, 0, none⟩)]] 71 (0, 0))
  c4 : w.heap[b4]? = some (.cells #[.func (.func 30) #[] #[.pointer (some ⟨b5, 0, none⟩), .pointer (some ⟨b2, 0, none⟩)]] 69 (0, 0))
  c5 : w.heap[b5]? = some (.cells #[sl] 37 (0, 0))
  done : MCnt Try.prog w 21 db N enc3 fd
theorem Cs.ne {w : World} {p b1 b2 b3 b4 b5 db N : Nat} {sl : Value} {fd : Int → Option Cn} (h : Cs w p b1 b2 b3 b4 b5 db N sl fd) {i : Nat} {cs : Array Value} {t : TypeId} (hc : w.heap[i]? = some (.cells cs t (0, 0))) : some db ≠ some i := by
  obtain ⟨_, _, hs⟩ := h.done.heap
  exact opt_ne (Ne.symm (ne_kind hc hs))
theorem Cs.kept {w w' : World} {p b1 b2 b3 b4 b5 db N N' : Nat} {sl : Value} {fd fd' : Int → Option Cn} (h : Cs w p b1 b2 b3 b4 b5 db N sl fd) (hg : w.grownBy w' (some db)) (hd : MCnt Try.prog w' 21 db N' enc3 fd') : Cs w' p b1 b2 b3 b4 b5 db N' sl fd' :=
  ⟨heap_grown h.c1 hg (h.ne h.c1), heap_grown h.c2 hg (h.ne h.c2), heap_grown h.c3 hg (h.ne h.c3), heap_grown h.c4 hg (h.ne h.c4), heap_grown h.c5 hg (h.ne h.c5), hd⟩
theorem Cs.below {w w' : World} {p b1 b2 b3 b4 b5 db N : Nat} {sl : Value} {fd : Int → Option Cn} (h : Cs w p b1 b2 b3 b4 b5 db N sl fd) (hb : Below w.heap.size w w') : Cs w' p b1 b2 b3 b4 b5 db N sl fd :=
  h.kept (below_grown hb _) (h.done.kept (below_grown hb none) (by simp))
def CntOut (S : Nat → Bool) (nd : List Nd) (ov : List Nat) (w : World) (db N n : Nat) (c : Cn) (e : Ending) (w' : World) : Prop :=
  ∃ (N' : Nat) (fd' : Int → Option Cn), e = .returned (cEl c) ∧ w.grownBy w' (some db) ∧ N' + 1 ≤ N + 2 ^ n ∧ MCnt Try.prog w' 21 db N' enc3 fd' ∧ DoneC S nd ov fd'
structure CntHyp (S : Nat → Bool) (k : Blk) (s : St) (w0 : World) (A : Option Addr) (c : Nat) (ov : List Nat) : Prop where
  hA : Ar w0 k s
  hov : Rise ov
  hall : ∀ x ∈ ov, x < 256
  hin : ∀ x, S x = true → x ∈ ov
  hS : Src w0 A ov.length c 1 ((encL ov).map encI)
  hn : ov.length ≤ 127
  hm : s.m + 2 ≤ 1000000000
def CntAt (S : Nat → Bool) (k : Blk) (s : St) (w0 : World) (A : Option Addr) (c : Nat) (ov : List Nat) (b1 b2 b3 b4 b5 db n : Nat) : Prop :=
  ∀ (f t : Nat) (F : Env → Bool) (w : World) (N : Nat) (fd : Int → Option Cn), f < n → Den S s.nd f t F → Below w0.heap.size w0 w → Cs w k.p b1 b2 b3 b4 b5 db N (.slice A ov.length c) fd → DoneC S s.nd ov fd → N + 2 ^ nS S t ≤ 2000000000 →
    Calls Try.prog 32 #[.int .i32 f, .pointer (some ⟨b1, 0, none⟩), .pointer (some ⟨b2, 0, none⟩), .pointer (some ⟨b3, 0, none⟩), .pointer (some ⟨b4, 0, none⟩)] w (CntOut S s.nd ov w db N (nS S t) (cntN ov t F))
theorem zeroC (w : World) : (zeroValue 34).run Try.prog w = .ok (cEl (0, 0)) w := by
  exact Try.zeroValue34 w
set_option maxHeartbeats 2000000 in
set_option maxRecDepth 100000 in
theorem count_done (S : Nat → Bool) (k : Blk) (s : St) (w0 : World) (A : Option Addr) (c : Nat) (ov : List Nat) (b1 b2 b3 b4 b5 db : Nat) (H : CntHyp S k s w0 A c ov) (f t : Nat) (F : Env → Bool) (w : World) (N : Nat) (fd : Int → Option Cn) (d : Den S s.nd f t F) (hE : Cs w k.p b1 b2 b3 b4 b5 db N (.slice A ov.length c) fd) (hD : DoneC S s.nd ov fd) (cc : Cn) (hf : fd f = some cc) :
    Calls Try.prog 32 #[.int .i32 f, .pointer (some ⟨b1, 0, none⟩), .pointer (some ⟨b2, 0, none⟩), .pointer (some ⟨b3, 0, none⟩), .pointer (some ⟨b4, 0, none⟩)] w (CntOut S s.nd ov w db N (nS S t) (cntN ov t F)) := by
  have hW := H.hA.wf
  have hnm := H.hA.nm
  have hfl := d.lt hW
  have hm := H.hm
  have hcc := hD.all f cc hf t F d
  subst hcc
  have hb := bel_one w (.cells #[.int .u64 0, .int .u64 0] 34)
  have hE1 := hE.below hb
  have k1 := cell_heap (j := 0) hE1.c1 rfl
  have lk := hE1.done.look keyed3 Try.underlying70 (zeroC _) (key3 f (by omega) (by omega))
  rw [hf] at lk
  simp only [Option.getD_some, Option.isSome_some] at lk
  unfold enc3 cEl at lk
  generalize hcn : cntN ov t F = cc at *
  have HX : Hid (∀ w', Below w.heap.size w w' → CntOut S s.nd ov w db N (nS S t) cc (.returned (.agg #[.int .u64 cc.1, .int .u64 cc.2])) w') := fun w' hb' =>
    ⟨N, fd, rfl, below_grown hb' _, by have := Nat.one_le_two_pow (n := nS S t); omega, hE.done.kept (below_grown hb' none) (by simp), hD⟩
  have hX2 := hide (two_boxes w #[.int .u64 cc.1, .int .u64 cc.2] #[.int .u64 cc.1, .int .u64 cc.2] 34 34)
  clear hE hE1 hD d H hb hcn hf
  go_enter Try.func32, Try.ntmps32
  go_wp2_with fail
  generalize (w.alloc (.cells #[.int .u64 cc.1, .int .u64 cc.2] 34)).alloc (.cells #[.int .u64 cc.1, .int .u64 cc.2] 34) = w9 at *
  have q0 := cell_heap (j := 0) hX2.out.1 rfl
  have q1 := cell_heap (j := 1) hX2.out.1 rfl
  exact bodyPost_ret (v := .agg #[.int .u64 cc.1, .int .u64 cc.2]) (by simp [results, Try.results32, go_sem, q0, q1]) rfl (HX.out _ hX2.out.2.2)
theorem three_boxes (w : World) (a b c : Array Value) (ta tb tc : TypeId) : (((w.alloc (.cells a ta)).alloc (.cells b tb)).alloc (.cells c tc)).heap[w.heap.size]? = some (.cells a ta (0, 0)) ∧ (((w.alloc (.cells a ta)).alloc (.cells b tb)).alloc (.cells c tc)).heap[w.heap.size + 1]? = some (.cells b tb (0, 0)) ∧ (((w.alloc (.cells a ta)).alloc (.cells b tb)).alloc (.cells c tc)).heap[w.heap.size + 1 + 1]? = some (.cells c tc (0, 0)) ∧ Below w.heap.size w (((w.alloc (.cells a ta)).alloc (.cells b tb)).alloc (.cells c tc)) ∧ (((w.alloc (.cells a ta)).alloc (.cells b tb)).alloc (.cells c tc)).heap.size = w.heap.size + 3 := by
  obtain ⟨h1, h2, h3⟩ := two_boxes w a b ta tb
  refine ⟨heap_old h1, heap_old h2, ?_, h3.alloc (by simp; omega) _, by simp⟩
  have := heap_new ((w.alloc (.cells a ta)).alloc (.cells b tb)) (.cells c tc)
  rw [show ((w.alloc (.cells a ta)).alloc (.cells b tb)).heap.size = w.heap.size + 1 + 1 by simp] at this
  exact this
/-- two numbers of two words, added -/
theorem add_words {X Y : Nat} (h : X + Y < 340282366920938463463374607431768211456) : ∃ h1 : Nat, IntKind.u64.wrap (((ofN X).1 : Int) + ((ofN Y).1 : Int)) = (h1 : Int) ∧ IntKind.u64.wrap ((h1 : Int) + ((((ofN X).2 + (ofN Y).2) / 18446744073709551616 : Nat) : Int)) = ((ofN (X + Y)).1 : Int) ∧ ((ofN X).2 + (ofN Y).2) % 18446744073709551616 = (ofN (X + Y)).2 := by
  unfold ofN
  simp only
  refine ⟨X / 18446744073709551616 + Y / 18446744073709551616, ?_, ?_, ?_⟩
  · rw [IntKind.wrap_u64]; omega
  · rw [IntKind.wrap_u64]; omega
  · omega
theorem add_run {a b : Nat} (w : World) : (callFunc 34 #[.int .u64 a, .int .u64 b, .int .u64 0]).run Try.prog w = .ok (.value (.tuple #[.int .u64 ((a + b) % 18446744073709551616 : Nat), .int .u64 ((a + b) / 18446744073709551616 : Nat)])) w := by
  have h := run_callFunc_extern (P := Try.prog) (e := add64Entry) Try.func34 (by kernel_rfl) (by kernel_rfl) rfl rfl #[.int .u64 a, .int .u64 b, .int .u64 0] w
  rw [h, run_add64 _ _ _ (by omega) (by omega) (by omega) (by omega)]
  simp only [Result.andThen]
  congr 4
theorem gb_trans {a w w' : World} {row : Option Nat} (h : a.grownBy w row) (k : w.grownBy w' row) : a.grownBy w' row :=
  ⟨k.os.trans h.os, k.tape.trans h.tape, k.output.trans h.output, Nat.le_trans h.size k.size, fun i hi hr => (k.block i (Nat.lt_of_lt_of_le hi h.size) hr).trans (h.block i hi hr)⟩
/-- a fresh pair of words -/
def Zed (wr w : World) (z : Nat) : Prop := w.heap[z]? = some (.cells #[.int .u64 0, .int .u64 0] 34 (0, 0)) ∧ wr.heap.size ≤ z
theorem zed_new {wr : World} (w : World) (h : wr.heap.size ≤ w.heap.size) : Zed wr (w.alloc (.cells #[.int .u64 0, .int .u64 0] 34)) w.heap.size := ⟨heap_new _ _, h⟩
theorem bel_drew (w : World) (o : Obj) : Below w.drew.heap.size w.drew (w.alloc o).drew := by
  have h := (bel_one w o).drew
  exact ⟨h.os, h.tape, h.output, h.size, h.block⟩
theorem zed_new0 (wr : World) : Zed wr ((wr.alloc (.cells #[.int .u64 0, .int .u64 0] 34)).drew) wr.heap.size := ⟨heap_new _ _, Nat.le_refl _⟩
theorem Zed.grown {wr w w' : World} {z db : Nat} (h : Zed wr w z) (hg : w.grownBy w' (some db)) (hd : db < wr.heap.size) : Zed wr w' z := ⟨heap_grown h.1 hg (opt_ne (by have := h.2; omega)), h.2⟩
theorem Zed.below {wr w w' : World} {z : Nat} (h : Zed wr w z) (hb : Below w.heap.size w w') : Zed wr w' z := ⟨heapB hb h.1, h.2⟩
theorem pu0 {wr w w6 : World} (hb : Below w.heap.size w w6) : Below w.heap.size w w6 ∧ ∀ z, Zed wr w z → Zed wr w6 z := ⟨hb, fun _ h => h.below hb⟩
theorem pu1 {wr w w6 : World} {o : Obj} (hb : Below (w.alloc o).heap.size (w.alloc o) w6) : Below w.heap.size w w6 ∧ ∀ z, Zed wr (w.alloc o) z → Zed wr w6 z := ⟨below_wide (bel_one w o) hb, fun _ h => h.below hb⟩
theorem fin_set {wr w8 : World} {z : Nat} {u v : Value} (h : Zed wr w8 z) : ((w8.setCell ⟨z, 0, none⟩ u).setCell ⟨z, 1, none⟩ v).heap[z]? = some (.cells #[u, v] 34 (0, 0)) ∧ (wr.heap.size ≤ w8.heap.size → Below wr.heap.size w8 ((w8.setCell ⟨z, 0, none⟩ u).setCell ⟨z, 1, none⟩ v)) := by
  refine ⟨by rw [heap_set (heap_set h.1)]; rfl, fun hs => ?_⟩
  have hb : Below wr.heap.size w8 w8 := (Below.refl w8.heap.size w8).mono hs
  exact (hb.setCell (p := ⟨z, 0, none⟩) h.2 u).setCell (p := ⟨z, 1, none⟩) h.2 v
theorem fin_new {wr w8 : World} {u v : Value} : (w8.alloc (.cells #[u, v] 34)).heap[w8.heap.size]? = some (.cells #[u, v] 34 (0, 0)) ∧ (wr.heap.size ≤ w8.heap.size → Below wr.heap.size w8 (w8.alloc (.cells #[u, v] 34))) :=
  ⟨heap_new _ _, fun hs => (bel_one w8 _).mono hs⟩
theorem MCnt.block {P : Program} {w w' : World} {kt : TypeId} {b n : Nat} {α : Type} {en : α → Value} {f : α → Option Cn} (h : MCnt P w kt b n en f) (hb : w'.heap[b]? = w.heap[b]?) : MCnt P w' kt b n en f := by
  obtain ⟨D, h1, h2⟩ := h
  obtain ⟨es, cl, hh, F, hs', hD⟩ := h1
  exact ⟨D, ⟨es, cl, hb.trans hh, F, hs', hD⟩, h2⟩
/-- what a round of the loop over the two halves keeps -/
structure Cr (S : Nat → Bool) (k : Blk) (s : St) (w0 w wr : World) (A : Option Addr) (c : Nat) (ov : List Nat) (b1 b2 b3 b4 b5 db sb N E2 lo hi X i : Nat) (N' : Nat) (fd' : Int → Option Cn) : Prop where
  g : w.grownBy wr (some db)
  b : Below w0.heap.size w0 wr
  res : wr.heap[w.heap.size]? = some (.cells #[.int .u64 0, .int .u64 0] 34 (0, 0))
  acc : wr.heap[w.heap.size + 1 + 1]? = some (.cells #[.int .u64 (ofN X).1, .int .u64 (ofN X).2] 34 (0, 0))
  two : wr.heap[sb]? = some (.cells #[.int .i32 lo, .int .i32 hi] 21 (0, 0))
  E : Cs wr k.p b1 b2 b3 b4 b5 db N' (.slice A ov.length c) fd'
  D : DoneC S s.nd ov fd'
  n : N' + i ≤ N + i * E2
theorem gb_set {a w : World} {row : Option Nat} (h : a.grownBy w row) {b : Nat} (hb : a.heap.size ≤ b) (j : Nat) (u : Value) : a.grownBy (w.setCell ⟨b, j, none⟩ u) row :=
  ⟨h.os, h.tape, h.output, by simpa [World.setCell] using h.size, fun i hi hr => (Below.heap_setCell _ _ _ _ (show i ≠ b by omega)).trans (h.block i hi hr)⟩
theorem Cs.far {w : World} {p b1 b2 b3 b4 b5 db N b j : Nat} {sl u : Value} {cs : Array Value} {fd : Int → Option Cn} (h : Cs w p b1 b2 b3 b4 b5 db N sl fd) (hb : w.heap[b]? = some (.cells cs 34 (0, 0))) : Cs (w.setCell ⟨b, j, none⟩ u) p b1 b2 b3 b4 b5 db N sl fd := by
  obtain ⟨_, _, hs⟩ := h.done.heap
  exact ⟨heap_far h.c1 (heap_ne h.c1 hb (by decide)), heap_far h.c2 (heap_ne h.c2 hb (by decide)), heap_far h.c3 (heap_ne h.c3 hb (by decide)), heap_far h.c4 (heap_ne h.c4 hb (by decide)), heap_far h.c5 (heap_ne h.c5 hb (by decide)), h.done.setCell (Ne.symm (ne_kind hb hs)) _⟩
theorem cr_next {S : Nat → Bool} {k : Blk} {s : St} {w0 w wr w9 : World} {A : Option Addr} {c : Nat} {ov : List Nat} {b1 b2 b3 b4 b5 db sb N E2 lo hi X i N' N2 X' : Nat} {fd' fd2 : Int → Option Cn} (C : Cr S k s w0 w wr A c ov b1 b2 b3 b4 b5 db sb N E2 lo hi X i N' fd') (G : wr.grownBy w9 (some db)) (E9 : Cs w9 k.p b1 b2 b3 b4 b5 db N2 (.slice A ov.length c) fd2) (D2 : DoneC S s.nd ov fd2) (hn : N2 + (i + 1) ≤ N + (i + 1) * E2) (hl : w0.heap.size ≤ db) (hw : w0.heap.size ≤ w.heap.size) :
    Cr S k s w0 w ((w9.setCell ⟨w.heap.size + 1 + 1, 0, none⟩ (.int .u64 (ofN X').1)).setCell ⟨w.heap.size + 1 + 1, 1, none⟩ (.int .u64 (ofN X').2)) A c ov b1 b2 b3 b4 b5 db sb N E2 lo hi X' (i + 1) N2 fd2 := by
  have acc9 := heap_grown C.acc G (C.E.ne C.acc)
  have acc10 := heap_set (j := 0) (u := .int .u64 ((ofN X').1 : Int)) acc9
  have sz := C.g.size
  refine ⟨gb_set (gb_set (gb_trans C.g G) (by omega) _ _) (by omega) _ _, ?_, heap_far (heap_far (heap_grown C.res G (C.E.ne C.res)) (by simp; omega)) (by simp; omega), ?_, ?_, (E9.far acc9).far acc10, D2, hn⟩
  · exact ((C.b.grown G C.b.size (fun b e => by injection e with e; omega)).setCell (p := ⟨w.heap.size + 1 + 1, 0, none⟩) (by simp; omega) _).setCell (p := ⟨w.heap.size + 1 + 1, 1, none⟩) (by simp; omega) _
  · rw [heap_set acc10]; rfl
  · have t9 := heap_grown C.two G (C.E.ne C.two)
    have hne := heap_ne t9 acc9 (by decide)
    exact heap_far (heap_far t9 hne) hne
theorem fin_all {wr w5 w8 w9 : World} {db : Nat} (hg : wr.drew.grownBy w5 (some db)) (hb : Below w5.heap.size w5 w8) (hF : wr.heap.size ≤ w8.heap.size → Below wr.heap.size w8 w9) (hd : db < wr.heap.size) : wr.grownBy w9 (some db) ∧ w9.heap[db]? = w5.heap[db]? := by
  have h5 : wr.heap.size ≤ w5.heap.size := hg.size
  have h8 := hb.size
  have hF' := hF (by omega)
  refine ⟨⟨hF'.os.trans (hb.os.trans hg.os), hF'.tape.trans (hb.tape.trans hg.tape), hF'.output.trans (hb.output.trans hg.output), by have := hF'.size; omega, fun i hi hr => ?_⟩, ?_⟩
  · exact (hF'.block i hi).trans ((hb.block i (by omega)).trans (hg.block i hi hr))
  · exact (hF'.block db hd).trans (hb.block db (by omega))
end Go.Proofs.Ytgfjdkkfgclhjaa.Bd
