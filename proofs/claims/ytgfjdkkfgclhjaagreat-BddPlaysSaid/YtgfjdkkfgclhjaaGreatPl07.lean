/- What the claim leans on, part 7 of 13: ED EP EQ ER ES ET. -/
import Derived.Test.YtgfjdkkfgclhjaaGreatPl01
import Derived.Test.YtgfjdkkfgclhjaaGreatPl02
import Derived.Test.YtgfjdkkfgclhjaaGreatPl03
import Derived.Test.YtgfjdkkfgclhjaaGreatPl04
import Derived.Test.YtgfjdkkfgclhjaaGreatPl05
import Derived.Test.YtgfjdkkfgclhjaaGreatPl06
/- What an arena answers where it is asked wrongly (printed by gen_ed.py). -/
namespace Go.Proofs.YtgfjdkkfgclhjaaGreat.Bd
open Go.RowKit Go.Proofs.YtgfjdkkfgclhjaaGreat Go.Proofs.YtgfjdkkfgclhjaaGreat.Lx Go.Maps

abbrev I64 (x : Int) : Prop := -9223372036854775808 ≤ x ∧ x < 9223372036854775808
theorem i64_0 : I64 0 := by decide
theorem i64_1 : I64 1 := by decide
theorem Ite_bad (k : Blk) (s : St) (f g h : Int) (w : World) (hA : Ar w k s) (h1 : I64 f) (h2 : I64 g) (h3 : I64 h) (hv : gvn s [f, g, h] = 1) :
    Calls Tryz.prog 59 #[.pointer (some ⟨k.p, 0, none⟩), .int .i64 f, .int .i64 g, .int .i64 h] w fun e w' => e = .returned (.tuple #[.int .i64 0, .int .i64 1]) ∧ Below w.heap.size w w' := by
  have hbl := bel_one w (.cells #[.int .i64 f, .int .i64 g, .int .i64 h] 3)
  have HC := hide (check_any k s [f, g, h] w.heap.size _ (hA.below hbl) (cells3 w f g h) (by simp; omega) (by simp))
  rw [show [f, g, h].length = 3 from rfl, hv] at HC
  have HB := hide hbl
  clear hA hbl h1 h2 h3 hv
  go_enter Tryz.func59, Tryz.ntmps59
  go_wp2_with fail
  refine HC.out.mono ?_
  rintro e w1 ⟨rfl, rfl⟩
  go_wp2_with fail
  go_ret2
  exact ⟨rfl, HB.out⟩
set_option maxRecDepth 100000 in
theorem Not_bad (k : Blk) (s : St) (f : Int) (w : World) (hA : Ar w k s) (hf : I64 f) (hv : gvn s [f, 0, 1] = 1) :
    Calls Tryz.prog 55 #[.pointer (some ⟨k.p, 0, none⟩), .int .i64 f] w fun e w' => e = .returned (.tuple #[.int .i64 0, .int .i64 1]) ∧ Below w.heap.size w w' := by
  have HC := hide (Ite_bad k s f 0 1 w hA hf i64_0 i64_1 hv)
  clear hA hv
  go_enter Tryz.func55, Tryz.ntmps55
  go_wp2_with fail
  refine HC.out.mono ?_
  rintro e w1 ⟨rfl, hb⟩
  have HB := hide hb
  clear hb HC
  go_wp2_with fail
  go_ret2
  exact ⟨rfl, HB.out⟩
set_option maxRecDepth 100000 in
theorem And_bad (k : Blk) (s : St) (f g : Int) (w : World) (hA : Ar w k s) (hf : I64 f) (hg : I64 g) (hv : gvn s [f, g, 0] = 1) :
    Calls Tryz.prog 56 #[.pointer (some ⟨k.p, 0, none⟩), .int .i64 f, .int .i64 g] w fun e w' => e = .returned (.tuple #[.int .i64 0, .int .i64 1]) ∧ Below w.heap.size w w' := by
  have HC := hide (Ite_bad k s f g 0 w hA hf hg i64_0 hv)
  clear hA hv
  go_enter Tryz.func56, Tryz.ntmps56
  go_wp2_with fail
  refine HC.out.mono ?_
  rintro e w1 ⟨rfl, hb⟩
  have HB := hide hb
  clear hb HC
  go_wp2_with fail
  go_ret2
  exact ⟨rfl, HB.out⟩
set_option maxRecDepth 100000 in
theorem Or_bad (k : Blk) (s : St) (f g : Int) (w : World) (hA : Ar w k s) (hf : I64 f) (hg : I64 g) (hv : gvn s [f, 1, g] = 1) :
    Calls Tryz.prog 57 #[.pointer (some ⟨k.p, 0, none⟩), .int .i64 f, .int .i64 g] w fun e w' => e = .returned (.tuple #[.int .i64 0, .int .i64 1]) ∧ Below w.heap.size w w' := by
  have HC := hide (Ite_bad k s f 1 g w hA hf i64_1 hg hv)
  clear hA hv
  go_enter Tryz.func57, Tryz.ntmps57
  go_wp2_with fail
  refine HC.out.mono ?_
  rintro e w1 ⟨rfl, hb⟩
  have HB := hide hb
  clear hb HC
  go_wp2_with fail
  go_ret2
  exact ⟨rfl, HB.out⟩
theorem Xor_bad (k : Blk) (s : St) (f g : Int) (w : World) (hA : Ar w k s) (h1 : I64 f) (h2 : I64 g) (hv : gvn s [f, g] = 1) :
    Calls Tryz.prog 58 #[.pointer (some ⟨k.p, 0, none⟩), .int .i64 f, .int .i64 g] w fun e w' => e = .returned (.tuple #[.int .i64 0, .int .i64 1]) ∧ Below w.heap.size w w' := by
  have hbl := bel_one w (.cells #[.int .i64 f, .int .i64 g] 3)
  have HC := hide (check_any k s [f, g] w.heap.size _ (hA.below hbl) (cells2 w f g) (by simp; omega) (by simp))
  rw [show [f, g].length = 2 from rfl, hv] at HC
  have HB := hide hbl
  clear hA hbl h1 h2 hv
  go_enter Tryz.func58, Tryz.ntmps58
  go_wp2_with fail
  refine HC.out.mono ?_
  rintro e w1 ⟨rfl, rfl⟩
  go_wp2_with fail
  go_ret2
  exact ⟨rfl, HB.out⟩
set_option maxRecDepth 100000 in
theorem Restrict_bad (k : Blk) (s : St) (f i : Int) (b : Bool) (w : World) (hA : Ar w k s) (h1 : I64 f) (hv : gvn s [f] = 1) :
    Calls Tryz.prog 60 #[.pointer (some ⟨k.p, 0, none⟩), .int .i64 f, .int .i64 i, .bool b] w fun e w' => e = .returned (.tuple #[.int .i64 0, .int .i64 1]) ∧ Below w.heap.size w w' := by
  obtain ⟨hb3, x0, x1, x2⟩ := box3 w (.pointer (some ⟨k.p, 0, none⟩)) (.int .i64 i) (.bool b) 24 3 4
  obtain ⟨W, hWd⟩ : ∃ W, W = (((w.alloc (.cells #[.pointer (some ⟨k.p, 0, none⟩)] 24)).alloc (.cells #[.int .i64 i] 3)).alloc (.cells #[.bool b] 4)) := ⟨_, rfl⟩
  rw [← hWd] at hb3 x0 x1 x2
  have hsW : W.heap.size = w.heap.size + 3 := by rw [hWd]; simp
  have hbl := below_wide hb3 (bel_one W (.cells #[.int .i64 f] 3))
  have HC := hide (check_any k s [f] W.heap.size _ (hA.below hbl) (cells1 W f) (by simp; omega) (by simp))
  rw [show [f].length = 1 from rfl, hv, hsW] at HC
  have y9 : W.cell? ⟨w.heap.size, 0, none⟩ = some (.pointer (some ⟨k.p, 0, none⟩)) := cell_heap x0 rfl
  have HB := hide hbl
  clear hA hbl hb3 x0 x1 x2 hsW hv h1
  subst hWd
  go_enter Tryz.func60, Tryz.ntmps60
  go_wp2_with fail
  refine HC.out.mono ?_
  rintro e w1 ⟨rfl, rfl⟩
  go_wp2_with fail
  go_ret2
  exact ⟨rfl, HB.out⟩
set_option maxRecDepth 100000 in
theorem Restrict_unk (k : Blk) (s : St) (f i : Int) (b : Bool) (w : World) (hA : Ar w k s) (h1 : I64 f) (hv : gvn s [f] = 0) (hk : knownB s.vs [i] = false) :
    Calls Tryz.prog 60 #[.pointer (some ⟨k.p, 0, none⟩), .int .i64 f, .int .i64 i, .bool b] w fun e w' => e = .returned (.tuple #[.int .i64 0, .int .i64 1]) ∧ Below w.heap.size w w' := by
  obtain ⟨hb3, x0, x1, x2⟩ := box3 w (.pointer (some ⟨k.p, 0, none⟩)) (.int .i64 i) (.bool b) 24 3 4
  obtain ⟨W, hWd⟩ : ∃ W, W = (((w.alloc (.cells #[.pointer (some ⟨k.p, 0, none⟩)] 24)).alloc (.cells #[.int .i64 i] 3)).alloc (.cells #[.bool b] 4)) := ⟨_, rfl⟩
  rw [← hWd] at hb3 x0 x1 x2
  have hsW : W.heap.size = w.heap.size + 3 := by rw [hWd]; simp
  have hbl := below_wide hb3 (bel_one W (.cells #[.int .i64 f] 3))
  have HC := hide (check_any k s [f] W.heap.size _ (hA.below hbl) (cells1 W f) (by simp; omega) (by simp))
  rw [show [f].length = 1 from rfl, hv, hsW] at HC
  have hbl2 := below_wide hbl (bel_one (W.alloc (.cells #[.int .i64 f] 3)) (.cells #[.int .i64 i] 3))
  have HK := hide (known_any k s _ 1 [i] _ (hA.below hbl2) (src1 _ _) (by simp [maxLen]))
  rw [show [i].length = 1 from rfl, hk, show (W.alloc (.cells #[.int .i64 f] 3)).heap.size = w.heap.size + 3 + 1 by simp [hsW]] at HK
  have y0 : (W.alloc (.cells #[.int .i64 f] 3)).cell? ⟨w.heap.size, 0, none⟩ = some (.pointer (some ⟨k.p, 0, none⟩)) := cell_heap (heap_old x0) rfl
  have y1 : (W.alloc (.cells #[.int .i64 f] 3)).cell? ⟨w.heap.size + 1, 0, none⟩ = some (.int .i64 i) := cell_heap (heap_old x1) rfl
  have y9 : W.cell? ⟨w.heap.size, 0, none⟩ = some (.pointer (some ⟨k.p, 0, none⟩)) := cell_heap x0 rfl
  have HB := hide hbl2
  clear hA hbl hbl2 hb3 x0 x1 x2 hsW hv h1 hk
  subst hWd
  go_enter Tryz.func60, Tryz.ntmps60
  go_wp2_with fail
  refine HC.out.mono ?_
  rintro e w1 ⟨rfl, rfl⟩
  go_wp2_with fail
  refine HK.out.mono ?_
  rintro e w2 ⟨rfl, hb⟩
  have HB2 := hide (below_wide HB.out hb)
  clear hb
  go_wp2_with fail
  go_ret2
  exact ⟨rfl, HB2.out⟩
set_option maxRecDepth 100000 in
theorem over_bad (k : Blk) (s : St) (f : Int) (A : Option Addr) (c : Nat) (l : List Int) (M : FuncId) (caps : Array Value) (w : World) (hA : Ar w k s) (h1 : I64 f) (hv : gvn s [f] = 1) :
    Calls Tryz.prog 76 #[.pointer (some ⟨k.p, 0, none⟩), .int .i64 f, .slice A l.length c, .func (.func M) #[] caps] w fun e w' => e = .returned (.tuple #[.int .i64 0, .int .i64 1]) ∧ Below w.heap.size w w' := by
  obtain ⟨hb2, x0, x1⟩ := box2 w (.pointer (some ⟨k.p, 0, none⟩)) (.func (.func M) #[] caps) 24 119
  obtain ⟨W, hWd⟩ : ∃ W, W = ((w.alloc (.cells #[.pointer (some ⟨k.p, 0, none⟩)] 24)).alloc (.cells #[.func (.func M) #[] caps] 119)) := ⟨_, rfl⟩
  rw [← hWd] at hb2 x0 x1
  have hsW : W.heap.size = w.heap.size + 2 := by rw [hWd]; simp
  have hbl := below_wide hb2 (bel_one W (.cells #[.int .i64 f] 3))
  have HC := hide (check_any k s [f] W.heap.size _ (hA.below hbl) (cells1 W f) (by simp; omega) (by simp))
  rw [show [f].length = 1 from rfl, hv, hsW] at HC
  have y9 : W.cell? ⟨w.heap.size, 0, none⟩ = some (.pointer (some ⟨k.p, 0, none⟩)) := cell_heap x0 rfl
  have HB := hide hbl
  clear hA hbl hb2 x0 x1 hsW hv h1
  subst hWd
  go_enter Tryz.func76, Tryz.ntmps76
  go_wp2_with fail
  refine HC.out.mono ?_
  rintro e w1 ⟨rfl, rfl⟩
  go_wp2_with fail
  go_ret2
  exact ⟨rfl, HB.out⟩
set_option maxRecDepth 100000 in
theorem over_unk (k : Blk) (s : St) (f : Int) (A : Option Addr) (c : Nat) (l : List Int) (M : FuncId) (caps : Array Value) (w : World) (hA : Ar w k s) (h1 : I64 f) (hv : gvn s [f] = 0) (hS : Src w A l.length c 1 (l.map encI)) (hn : l.length ≤ maxLen) (hk : knownB s.vs l = false) :
    Calls Tryz.prog 76 #[.pointer (some ⟨k.p, 0, none⟩), .int .i64 f, .slice A l.length c, .func (.func M) #[] caps] w fun e w' => e = .returned (.tuple #[.int .i64 0, .int .i64 1]) ∧ Below w.heap.size w w' := by
  obtain ⟨hb2, x0, x1⟩ := box2 w (.pointer (some ⟨k.p, 0, none⟩)) (.func (.func M) #[] caps) 24 119
  obtain ⟨W, hWd⟩ : ∃ W, W = ((w.alloc (.cells #[.pointer (some ⟨k.p, 0, none⟩)] 24)).alloc (.cells #[.func (.func M) #[] caps] 119)) := ⟨_, rfl⟩
  rw [← hWd] at hb2 x0 x1
  have hsW : W.heap.size = w.heap.size + 2 := by rw [hWd]; simp
  have hbl := below_wide hb2 (bel_one W (.cells #[.int .i64 f] 3))
  have HC := hide (check_any k s [f] W.heap.size _ (hA.below hbl) (cells1 W f) (by simp; omega) (by simp))
  rw [show [f].length = 1 from rfl, hv, hsW] at HC
  have HK := hide (known_any k s A c l _ (hA.below hbl) (hS.below hbl) hn)
  rw [hk] at HK
  have y0 : (W.alloc (.cells #[.int .i64 f] 3)).cell? ⟨w.heap.size, 0, none⟩ = some (.pointer (some ⟨k.p, 0, none⟩)) := cell_heap (heap_old x0) rfl
  have y9 : W.cell? ⟨w.heap.size, 0, none⟩ = some (.pointer (some ⟨k.p, 0, none⟩)) := cell_heap x0 rfl
  have HB := hide hbl
  clear hA hbl hb2 x0 x1 hsW hv h1 hk hS hn
  subst hWd
  go_enter Tryz.func76, Tryz.ntmps76
  go_wp2_with fail
  refine HC.out.mono ?_
  rintro e w1 ⟨rfl, rfl⟩
  go_wp2_with fail
  refine HK.out.mono ?_
  rintro e w2 ⟨rfl, hb⟩
  have HB2 := hide (below_wide HB.out hb)
  clear hb
  go_wp2_with fail
  go_ret2
  exact ⟨rfl, HB2.out⟩
/-- Exists and Forall ask over -/
theorem over_err (k : Blk) (s : St) (f : Int) (A : Option Addr) (c : Nat) (l : List Int) (M : FuncId) (caps : Array Value) (w : World) (hA : Ar w k s) (h1 : I64 f) (hS : Src w A l.length c 1 (l.map encI)) (hn : l.length ≤ maxLen) (he : gvn s [f] = 1 ∨ (gvn s [f] = 0 ∧ knownB s.vs l = false)) :
    Calls Tryz.prog 76 #[.pointer (some ⟨k.p, 0, none⟩), .int .i64 f, .slice A l.length c, .func (.func M) #[] caps] w fun e w' => e = .returned (.tuple #[.int .i64 0, .int .i64 1]) ∧ Below w.heap.size w w' := by
  rcases he with h | ⟨h, h'⟩
  · exact over_bad k s f A c l M caps w hA h1 h
  · exact over_unk k s f A c l M caps w hA h1 h hS hn h'
set_option maxRecDepth 100000 in
theorem Exists_err (k : Blk) (s : St) (f : Int) (A : Option Addr) (c : Nat) (l : List Int) (w : World) (hA : Ar w k s) (h1 : I64 f) (hS : Src w A l.length c 1 (l.map encI)) (hn : l.length ≤ maxLen) (he : gvn s [f] = 1 ∨ (gvn s [f] = 0 ∧ knownB s.vs l = false)) :
    Calls Tryz.prog 61 #[.pointer (some ⟨k.p, 0, none⟩), .int .i64 f, .slice A l.length c] w fun e w' => e = .returned (.tuple #[.int .i64 0, .int .i64 1]) ∧ Below w.heap.size w w' := by
  have hb := bel_one w (.cells #[.pointer (some ⟨k.p, 0, none⟩)] 24)
  have HC := hide (fun M caps => over_err k s f A c l M caps _ (hA.below hb) h1 (hS.below hb) hn he)
  have y0 : (w.alloc (.cells #[.pointer (some ⟨k.p, 0, none⟩)] 24)).cell? ⟨w.heap.size, 0, none⟩ = some (.pointer (some ⟨k.p, 0, none⟩)) := cell_heap (heap_new _ _) rfl
  have HB := hide hb
  clear hA h1 hS hn he hb
  go_enter Tryz.func61, Tryz.ntmps61
  go_wp2_with fail
  refine (HC.out _ _).mono ?_
  rintro e w1 ⟨rfl, hb⟩
  have HB2 := hide (below_wide HB.out hb)
  clear hb HC
  go_wp2_with fail
  go_ret2
  exact ⟨rfl, HB2.out⟩
set_option maxRecDepth 100000 in
theorem Forall_err (k : Blk) (s : St) (f : Int) (A : Option Addr) (c : Nat) (l : List Int) (w : World) (hA : Ar w k s) (h1 : I64 f) (hS : Src w A l.length c 1 (l.map encI)) (hn : l.length ≤ maxLen) (he : gvn s [f] = 1 ∨ (gvn s [f] = 0 ∧ knownB s.vs l = false)) :
    Calls Tryz.prog 62 #[.pointer (some ⟨k.p, 0, none⟩), .int .i64 f, .slice A l.length c] w fun e w' => e = .returned (.tuple #[.int .i64 0, .int .i64 1]) ∧ Below w.heap.size w w' := by
  have hb := bel_one w (.cells #[.pointer (some ⟨k.p, 0, none⟩)] 24)
  have HC := hide (fun M caps => over_err k s f A c l M caps _ (hA.below hb) h1 (hS.below hb) hn he)
  have y0 : (w.alloc (.cells #[.pointer (some ⟨k.p, 0, none⟩)] 24)).cell? ⟨w.heap.size, 0, none⟩ = some (.pointer (some ⟨k.p, 0, none⟩)) := cell_heap (heap_new _ _) rfl
  have HB := hide hb
  clear hA h1 hS hn he hb
  go_enter Tryz.func62, Tryz.ntmps62
  go_wp2_with fail
  refine (HC.out _ _).mono ?_
  rintro e w1 ⟨rfl, hb⟩
  have HB2 := hide (below_wide HB.out hb)
  clear hb HC
  go_wp2_with fail
  go_ret2
  exact ⟨rfl, HB2.out⟩
set_option maxRecDepth 100000 in
theorem At_bad (k : Blk) (s : St) (f : Int) (v : Value) (w : World) (hA : Ar w k s) (h1 : I64 f) (hv : gvn s [f] = 1) :
    Calls Tryz.prog 13 #[.pointer (some ⟨k.p, 0, none⟩), .int .i64 f, v] w fun e w' => e = .returned (.tuple #[.bool false, .int .i64 1]) ∧ Below w.heap.size w w' := by
  have hbl := bel_one w (.cells #[.int .i64 f] 3)
  have HC := hide (check_any k s [f] w.heap.size _ (hA.below hbl) (cells1 w f) (by simp; omega) (by simp))
  rw [show [f].length = 1 from rfl, hv] at HC
  have HB := hide hbl
  clear hA hbl h1 hv
  go_enter Tryz.func13, Tryz.ntmps13
  go_wp2_with fail
  refine HC.out.mono ?_
  rintro e w1 ⟨rfl, rfl⟩
  go_wp2_with fail
  go_ret2
  exact ⟨rfl, HB.out⟩
set_option maxRecDepth 100000 in
theorem At_len (k : Blk) (s : St) (f : Int) (A : Option Addr) (n c : Nat) (w : World) (hA : Ar w k s) (h1 : I64 f) (hv : gvn s [f] = 0) (hn : n ≠ s.vs) :
    Calls Tryz.prog 13 #[.pointer (some ⟨k.p, 0, none⟩), .int .i64 f, .slice A n c] w fun e w' => e = .returned (.tuple #[.bool false, .int .i64 1]) ∧ Below w.heap.size w w' := by
  have hbl := bel_one w (.cells #[.int .i64 f] 3)
  have HC := hide (check_any k s [f] w.heap.size _ (hA.below hbl) (cells1 w f) (by simp; omega) (by simp))
  rw [show [f].length = 1 from rfl, hv] at HC
  have HB := hide hbl
  have c0 : (w.alloc (.cells #[.int .i64 f] 3)).cell? ⟨k.p, 0, none⟩ = some (.int .i64 s.vs) := by obtain ⟨_, _, H, _⟩ := hA.below hbl; exact H.c0
  have d1 : (n != s.vs) = true := bne_iff_ne.2 hn
  have d1' : ((n : Int) != (s.vs : Int)) = true := bne_iff_ne.2 (by omega)
  clear hA hbl h1 hv hn
  go_enter Tryz.func13, Tryz.ntmps13
  go_wp2_with fail
  refine HC.out.mono ?_
  rintro e w1 ⟨rfl, rfl⟩
  go_wp2_with fail
  go_ret2
  exact ⟨rfl, HB.out⟩
set_option maxRecDepth 100000 in
theorem Least_bad (k : Blk) (s : St) (f : Int) (v : Value) (w : World) (hA : Ar w k s) (h1 : I64 f) (hv : gvn s [f] = 1) :
    Calls Tryz.prog 18 #[.pointer (some ⟨k.p, 0, none⟩), .int .i64 f, v] w fun e w' => e = .returned (.tuple #[.slice none 0 0, .int .i64 1]) ∧ Below w.heap.size w w' := by
  have hbl := bel_one w (.cells #[.int .i64 f] 3)
  have HC := hide (check_any k s [f] w.heap.size _ (hA.below hbl) (cells1 w f) (by simp; omega) (by simp))
  rw [show [f].length = 1 from rfl, hv] at HC
  have HB := hide hbl
  clear hA hbl h1 hv
  go_enter Tryz.func18, Tryz.ntmps18
  go_wp2_with fail
  refine HC.out.mono ?_
  rintro e w1 ⟨rfl, rfl⟩
  go_wp2_with fail
  go_ret2
  exact ⟨rfl, HB.out⟩
set_option maxRecDepth 100000 in
theorem Least_unr (k : Blk) (s : St) (f : Nat) (A : Option Addr) (c : Nat) (l : List Int) (w : World) (hA : Ar w k s) (g1 : s.gi f = true) (hf : f < s.nd.length) (hS : Src w A l.length c 1 (l.map encI)) (hn : l.length ≤ 20000000000000) (hm : s.m + 2 ≤ 1000000000) (hr : ∀ (w w' : World) e, RisesOut s.vs s.nd f l w e w' → e = .returned (.bool false) ∧ Below w.heap.size w w') :
    Calls Tryz.prog 18 #[.pointer (some ⟨k.p, 0, none⟩), .int .i64 f, .slice A l.length c] w fun e w' => e = .returned (.tuple #[.slice none 0 0, .int .i64 1]) ∧ Below w.heap.size w w' := by
  have hnm := hA.nm
  have hbl := bel_one w (.cells #[.int .i64 f] 3)
  have HC := hide (check_any k s [(f : Int)] w.heap.size _ (hA.below hbl) (cells1 w f) (by simp; omega) (by simp))
  rw [show [(f : Int)].length = 1 from rfl, gvn_all (s := s) (l := [(f : Int)]) (by simp [g1])] at HC
  have HRI := hide ((rises_any k s f A c l (w.alloc (.cells #[.int .i64 f] 3)) (hA.below hbl) g1 hf (hS.below hbl) hn hm).mono (fun e w' h => hr _ _ _ h))
  have HB := hide hbl
  clear hA hbl g1 hf hS hn hm hr
  go_enter Tryz.func18, Tryz.ntmps18
  go_wp2_with fail
  refine HC.out.mono ?_
  rintro e w1 ⟨rfl, rfl⟩
  go_wp2_with fail
  refine HRI.out.mono ?_
  rintro e w2 ⟨rfl, hb⟩
  have HB2 := hide (below_wide HB.out hb)
  clear hb
  go_wp2_with fail
  go_ret2
  exact ⟨rfl, HB2.out⟩
set_option maxRecDepth 100000 in
theorem Support_bad (k : Blk) (s : St) (f : Int) (w : World) (hA : Ar w k s) (h1 : I64 f) (hv : gvn s [f] = 1) :
    Calls Tryz.prog 16 #[.pointer (some ⟨k.p, 0, none⟩), .int .i64 f] w fun e w' => e = .returned (.tuple #[.slice none 0 0, .int .i64 1]) ∧ Below w.heap.size w w' := by
  have hb1 := bel_one w (.cells #[.pointer (some ⟨k.p, 0, none⟩)] 24)
  have x0 := heap_new w (.cells #[.pointer (some ⟨k.p, 0, none⟩)] 24)
  obtain ⟨W, hWd⟩ : ∃ W, W = (w.alloc (.cells #[.pointer (some ⟨k.p, 0, none⟩)] 24)) := ⟨_, rfl⟩
  rw [← hWd] at hb1 x0
  have hsW : W.heap.size = w.heap.size + 1 := by rw [hWd]; simp
  have hbl := below_wide hb1 (bel_one W (.cells #[.int .i64 f] 3))
  have HC := hide (check_any k s [f] W.heap.size _ (hA.below hbl) (cells1 W f) (by simp; omega) (by simp))
  rw [show [f].length = 1 from rfl, hv, hsW] at HC
  have y9 : W.cell? ⟨w.heap.size, 0, none⟩ = some (.pointer (some ⟨k.p, 0, none⟩)) := cell_heap x0 rfl
  have HB := hide hbl
  clear hA hbl hb1 x0 hsW hv h1
  subst hWd
  go_enter Tryz.func16, Tryz.ntmps16
  go_wp2_with fail
  refine HC.out.mono ?_
  rintro e w1 ⟨rfl, rfl⟩
  go_wp2_with fail
  go_ret2
  exact ⟨rfl, HB.out⟩
set_option maxRecDepth 100000 in
theorem Rename_bad (k : Blk) (s : St) (f : Int) (u v : Value) (w : World) (hA : Ar w k s) (h1 : I64 f) (hv : gvn s [f] = 1) : Calls Tryz.prog 63 #[.pointer (some ⟨k.p, 0, none⟩), .int .i64 f, u, v] w fun e w' => e = .returned (.tuple #[.int .i64 0, .int .i64 1]) ∧ Below w.heap.size w w' := by
  have hb1 := bel_one w (.cells #[.pointer (some ⟨k.p, 0, none⟩)] 24)
  have x0 := heap_new w (.cells #[.pointer (some ⟨k.p, 0, none⟩)] 24)
  obtain ⟨W, hWd⟩ : ∃ W, W = (w.alloc (.cells #[.pointer (some ⟨k.p, 0, none⟩)] 24)) := ⟨_, rfl⟩
  rw [← hWd] at hb1 x0
  have hsW : W.heap.size = w.heap.size + 1 := by rw [hWd]; simp
  have hbl := below_wide hb1 (bel_one W (.cells #[.int .i64 f] 3))
  have HC := hide (check_any k s [f] W.heap.size _ (hA.below hbl) (cells1 W f) (by simp; omega) (by simp))
  rw [show [f].length = 1 from rfl, hv, hsW] at HC
  have y9 : W.cell? ⟨w.heap.size, 0, none⟩ = some (.pointer (some ⟨k.p, 0, none⟩)) := cell_heap x0 rfl
  have HB := hide hbl
  clear hA hbl hb1 x0 hsW hv h1
  subst hWd
  go_enter Tryz.func63, Tryz.ntmps63
  go_wp2_with fail
  refine HC.out.mono ?_
  rintro e w1 ⟨rfl, rfl⟩
  go_wp2_with fail
  go_ret2
  exact ⟨rfl, HB.out⟩
set_option maxHeartbeats 1000000 in
set_option maxRecDepth 100000 in
theorem Count_bad (k : Blk) (s : St) (f : Int) (A : Option Addr) (n c : Nat) (w : World) (hA : Ar w k s) (h1 : I64 f) (hv : gvn s [f] = 1) :
    Calls Tryz.prog 17 #[.pointer (some ⟨k.p, 0, none⟩), .int .i64 f, .slice A n c] w fun e w' => e = .returned (.tuple #[.agg #[.int .u64 0, .int .u64 0], .int .i64 1]) ∧ Below w.heap.size w w' := by
  skip
  obtain ⟨x0, x1, x2, hb3, hs3⟩ := three_boxes w #[.pointer (some ⟨k.p, 0, none⟩)] #[.slice A n c] #[.int .u64 0, .int .u64 0] 24 30 61
  obtain ⟨W, hWd⟩ : ∃ W, W = (((w.alloc (.cells #[.pointer (some ⟨k.p, 0, none⟩)] 24)).alloc (.cells #[.slice A n c] 30)).alloc (.cells #[.int .u64 0, .int .u64 0] 61)) := ⟨_, rfl⟩
  rw [← hWd] at x0 x1 x2 hb3 hs3
  have hbl := below_wide hb3 (bel_one W (.cells #[.int .i64 f] 3))
  have HC := hide (check_any k s [f] W.heap.size _ (hA.below hbl) (cells1 W f) (by simp; omega) (by simp))
  rw [show [f].length = 1 from rfl, hv, hs3] at HC
  have y0 : (W.alloc (.cells #[.int .i64 f] 3)).cell? ⟨w.heap.size, 0, none⟩ = some (.pointer (some ⟨k.p, 0, none⟩)) := cell_heap (heap_old x0) rfl
  have y1 : (W.alloc (.cells #[.int .i64 f] 3)).cell? ⟨w.heap.size + 1, 0, none⟩ = some (.slice A n c) := cell_heap (heap_old x1) rfl
  have y9 : W.cell? ⟨w.heap.size, 0, none⟩ = some (.pointer (some ⟨k.p, 0, none⟩)) := cell_heap x0 rfl
  have HX := hide (heap_old (p := .cells #[.int .i64 f] 3) x2)
  have HX1 := hide (heap_old (p := .cells #[.int .i64 f] 3) x1)
  have HB := hide hbl
  clear hA hbl hb3 hs3 x0 x1 x2 h1 hv
  subst hWd
  go_enter Tryz.func17, Tryz.ntmps17
  go_wp2_with fail
  refine HC.out.mono ?_
  rintro e w1 ⟨rfl, rfl⟩
  go_wp2_with fail
  generalize (((w.alloc (.cells #[.pointer (some ⟨k.p, 0, none⟩)] 24)).alloc (.cells #[.slice A n c] 30)).alloc (.cells #[.int .u64 0, .int .u64 0] 61)).alloc (.cells #[.int .i64 f] 3) = w9 at *
  have q0 := cell_heap (j := 0) HX.out rfl
  have q1 := cell_heap (j := 1) HX.out rfl
  exact bodyPost_ret (v := .tuple #[.agg #[.int .u64 0, .int .u64 0], .int .i64 1]) (by simp [results, Tryz.results17, go_sem, q0, q1]) rfl ⟨rfl, HB.out⟩
set_option maxHeartbeats 1000000 in
set_option maxRecDepth 100000 in
theorem Count_unr (k : Blk) (s : St) (f : Nat) (A : Option Addr) (c : Nat) (l : List Int) (w : World) (hA : Ar w k s) (g1 : s.gi f = true) (hf : f < s.nd.length) (hS : Src w A l.length c 1 (l.map encI)) (hn : l.length ≤ 20000000000000) (hm : s.m + 2 ≤ 1000000000) (hr : ∀ (w w' : World) e, RisesOut s.vs s.nd f l w e w' → e = .returned (.bool false) ∧ Below w.heap.size w w') :
    Calls Tryz.prog 17 #[.pointer (some ⟨k.p, 0, none⟩), .int .i64 f, .slice A l.length c] w fun e w' => e = .returned (.tuple #[.agg #[.int .u64 0, .int .u64 0], .int .i64 1]) ∧ Below w.heap.size w w' := by
  have hnm := hA.nm
  obtain ⟨x0, x1, x2, hb3, hs3⟩ := three_boxes w #[.pointer (some ⟨k.p, 0, none⟩)] #[.slice A l.length c] #[.int .u64 0, .int .u64 0] 24 30 61
  obtain ⟨W, hWd⟩ : ∃ W, W = (((w.alloc (.cells #[.pointer (some ⟨k.p, 0, none⟩)] 24)).alloc (.cells #[.slice A l.length c] 30)).alloc (.cells #[.int .u64 0, .int .u64 0] 61)) := ⟨_, rfl⟩
  rw [← hWd] at x0 x1 x2 hb3 hs3
  have hbl := below_wide hb3 (bel_one W (.cells #[.int .i64 f] 3))
  have HC := hide (check_any k s [(f : Int)] W.heap.size _ (hA.below hbl) (cells1 W f) (by simp; omega) (by simp))
  rw [show [(f : Int)].length = 1 from rfl, gvn_all (s := s) (l := [(f : Int)]) (by simp [g1]), hs3] at HC
  have HRI := hide ((rises_any k s f A c l (W.alloc (.cells #[.int .i64 f] 3)) (hA.below hbl) g1 hf (hS.below hbl) hn hm).mono (fun e w' h => hr _ _ _ h))
  have y0 : (W.alloc (.cells #[.int .i64 f] 3)).cell? ⟨w.heap.size, 0, none⟩ = some (.pointer (some ⟨k.p, 0, none⟩)) := cell_heap (heap_old x0) rfl
  have y1 : (W.alloc (.cells #[.int .i64 f] 3)).cell? ⟨w.heap.size + 1, 0, none⟩ = some (.slice A l.length c) := cell_heap (heap_old x1) rfl
  have y9 : W.cell? ⟨w.heap.size, 0, none⟩ = some (.pointer (some ⟨k.p, 0, none⟩)) := cell_heap x0 rfl
  have HX := hide (heap_old (p := .cells #[.int .i64 f] 3) x2)
  have HX1 := hide (heap_old (p := .cells #[.int .i64 f] 3) x1)
  have HB := hide hbl
  clear hA hbl hb3 hs3 x0 x1 x2 g1 hf hS hn hm hr
  subst hWd
  go_enter Tryz.func17, Tryz.ntmps17
  go_wp2_with fail
  refine HC.out.mono ?_
  rintro e w1 ⟨rfl, rfl⟩
  go_wp2_with fail
  refine HRI.out.mono ?_
  rintro e w2 ⟨rfl, hb⟩
  have z1 := heapB hb HX1.out
  have z2 := heapB hb HX.out
  have HB2 := hide (below_wide HB.out hb)
  have v1 := cell_heap (j := 0) z1 rfl
  have r0 := cell_heap (j := 0) z2 rfl
  have rf0 := frozen_heap (j := 0) z2
  have r1 := fun (u : Value) => cell_heap (j := 1) (heap_set (j := 0) (u := u) z2) rfl
  have rf1 := fun (u : Value) => frozen_heap (j := 1) (heap_set (j := 0) (u := u) z2)
  have HZ := hide z2
  clear hb z1 z2 HX HX1 y0 y1 y9 HC HRI
  go_wp2_with fail
  have HBF := hide ((HB2.out.setCell (p := ⟨w.heap.size + 1 + 1, 0, none⟩) (by simp; omega) (.int .u64 0)).setCell (p := ⟨w.heap.size + 1 + 1, 1, none⟩) (by simp; omega) (.int .u64 0))
  have q0h := hide (cell_heap (j := 0) (heap_set (j := 1) (u := .int .u64 0) (heap_set (j := 0) (u := .int .u64 0) HZ.out)) rfl)
  have q1h := hide (cell_heap (j := 1) (heap_set (j := 1) (u := .int .u64 0) (heap_set (j := 0) (u := .int .u64 0) HZ.out)) rfl)
  clear r0 rf0 r1 rf1
  generalize (w2.setCell ⟨w.heap.size + 1 + 1, 0, none⟩ (.int .u64 0)).setCell ⟨w.heap.size + 1 + 1, 1, none⟩ (.int .u64 0) = w9 at *
  have q0 := q0h.out
  have q1 := q1h.out
  exact bodyPost_ret (v := .tuple #[.agg #[.int .u64 0, .int .u64 0], .int .i64 1]) (by simp [results, Tryz.results17, go_sem, q0, q1]) rfl ⟨rfl, HBF.out⟩
end Go.Proofs.YtgfjdkkfgclhjaaGreat.Bd
/- Size: each node beneath one is counted, once (turned from below and Support). -/
namespace Go.Proofs.YtgfjdkkfgclhjaaGreat.Bd
open Go.RowKit Go.Proofs.YtgfjdkkfgclhjaaGreat Go.Proofs.YtgfjdkkfgclhjaaGreat.Lx Go.Maps

/-- what the visit has in memory: fr was met, so many were counted -/
structure Bn (w0 w : World) (p b1 b2 b3 b4 sb bo : Nat) (fr gr : List Nat) : Prop where
  c1 : w.heap[b1]? = some (.cells #[.map (some sb)] 49 (0, 0))
  c2 : w.heap[b2]? = some (.cells #[.func (.func 38) #[] #[.pointer (some ⟨bo, 0, none⟩)]] 85 (0, 0))
  c3 : w.heap[b3]? = some (.cells #[.func (.func 64) #[] #[.pointer (some ⟨b1, 0, none⟩), .pointer (some ⟨b2, 0, none⟩), .pointer (some ⟨b3, 0, none⟩), .pointer (some ⟨b4, 0, none⟩)]] 85 (0, 0))
  c4 : w.heap[b4]? = some (.cells #[.pointer (some ⟨p, 0, none⟩)] 24 (0, 0))
  seen : MSet Tryz.prog w 21 4 sb (fr.length + 2) (fr.length + 2) enc3 (seenB fr)
  cnt : w.heap[bo]? = some (.cells #[.int .i64 gr.length] 3 (0, 0))
  below : Below w0.heap.size w0 w
  l1 : w0.heap.size ≤ b1
  l2 : w0.heap.size ≤ b2
  l3 : w0.heap.size ≤ b3
  l4 : w0.heap.size ≤ b4
  l5 : w0.heap.size ≤ sb
  l6 : w0.heap.size ≤ bo
section
variable {w0 w w' : World} {p b1 b2 b3 b4 sb bo : Nat} {fr gr : List Nat}
theorem Bn.drew (V : Bn w0 w p b1 b2 b3 b4 sb bo fr gr) : Bn w0 w.drew p b1 b2 b3 b4 sb bo fr gr := ⟨V.c1, V.c2, V.c3, V.c4, V.seen, V.cnt, V.below.drew, V.l1, V.l2, V.l3, V.l4, V.l5, V.l6⟩
theorem Bn.mark (V : Bn w0 w p b1 b2 b3 b4 sb bo fr gr) {f : Nat} (hm : MSet Tryz.prog w' 21 4 sb (fr.length + 2 + 1) (fr.length + 2 + 1) enc3 (seenB (fr ++ [f]))) (hg : w.mapTurned w' sb) : Bn w0 w' p b1 b2 b3 b4 sb bo (fr ++ [f]) gr := by
  obtain ⟨es, cl, hs⟩ := V.seen.heap
  have hg := hg.grown
  have ne : ∀ {b : Nat} {cs : Array Value} {t : TypeId}, w.heap[b]? = some (.cells cs t (0, 0)) → some sb ≠ some b := fun h => opt_ne (Ne.symm (ne_kind h hs))
  have hl : (fr ++ [f]).length = fr.length + 1 := by simp
  exact ⟨heap_grown V.c1 hg (ne V.c1), heap_grown V.c2 hg (ne V.c2), heap_grown V.c3 hg (ne V.c3), heap_grown V.c4 hg (ne V.c4), by rw [hl]; exact hm, heap_grown V.cnt hg (ne V.cnt), V.below.grown hg V.below.size (fun b e => by injection e with e; have := V.l5; omega), V.l1, V.l2, V.l3, V.l4, V.l5, V.l6⟩
theorem Bn.put (V : Bn w0 w p b1 b2 b3 b4 sb bo fr gr) (f : Nat) : Bn w0 (w.setCell ⟨bo, 0, none⟩ (.int .i64 ((gr.length : Int) + 1))) p b1 b2 b3 b4 sb bo fr (gr ++ [f]) := by
  obtain ⟨es, cl, hs⟩ := V.seen.heap
  refine ⟨heap_far V.c1 (heap_ne V.c1 V.cnt (by decide)), heap_far V.c2 (heap_ne V.c2 V.cnt (by decide)), heap_far V.c3 (heap_ne V.c3 V.cnt (by decide)), heap_far V.c4 (heap_ne V.c4 V.cnt (by decide)), V.seen.setCell (Ne.symm (ne_kind V.cnt hs)) _, ?_, V.below.setCell V.l6 _, V.l1, V.l2, V.l3, V.l4, V.l5, V.l6⟩
  rw [heap_set V.cnt]
  simp
end
set_option maxRecDepth 100000 in
theorem size1_any {w0 w : World} {p b1 b2 b3 b4 sb bo : Nat} {fr gr : List Nat} (f : Nat) (hgl : gr.length ≤ 1000000000) (V : Bn w0 w p b1 b2 b3 b4 sb bo fr gr) :
    Calls Tryz.prog 38 #[.int .i32 f, .pointer (some ⟨bo, 0, none⟩)] w fun e w' => e = .returned (.tuple #[]) ∧ Bn w0 w' p b1 b2 b3 b4 sb bo fr (gr ++ [f]) := by
  have k0 := cell_heap (j := 0) V.cnt rfl
  have f0 := frozen_heap (j := 0) V.cnt
  have HV := hide (V.put f)
  clear V
  go_enter Tryz.func38, Tryz.ntmps38
  go_wp2_with fail
  go_end0
  exact ⟨rfl, HV.out⟩
set_option maxHeartbeats 4000000 in
set_option maxRecDepth 100000 in
theorem belown_any (k : Blk) (s : St) (w0 : World) (hA : Ar w0 k s) (hm : s.m + 2 ≤ 1000000000) (b1 b2 b3 b4 sb bo : Nat) : ∀ (n f : Nat) (fr : List Nat) (w : World), f < n → f < s.nd.length → Met s.nd noH fr → Bn w0 w k.p b1 b2 b3 b4 sb bo fr fr →
    Calls Tryz.prog 64 #[.int .i32 f, .pointer (some ⟨b1, 0, none⟩), .pointer (some ⟨b2, 0, none⟩), .pointer (some ⟨b3, 0, none⟩), .pointer (some ⟨b4, 0, none⟩)] w fun e w' => e = .returned (.tuple #[]) ∧ Bn w0 w' k.p b1 b2 b3 b4 sb bo (vis s.nd noH n fr f) (vis s.nd noH n fr f) := by
  have hW := hA.wf
  have hnm := hA.nm
  intro n
  induction n with
  | zero => intro f fr w h; omega
  | succ n ih =>
    intro f fr w hfn hf hM V
    have hlen := hM.len
    have k1 := cell_heap (j := 0) V.c1 rfl
    have lk1 : (Instr.lookup 49 (.map (some sb)) (.int .i32 f) false).run Tryz.prog w = .ok (.bool (seenB fr f)) w := V.seen.look keyed3 Tryz.underlying49 Tryz.underlying4 (zeroB _) (key3 f (by omega) (by omega))
    cases hs : seenB fr f with
    | true =>
      rw [hs] at lk1
      have HV : Hid (Bn w0 w k.p b1 b2 b3 b4 sb bo (vis s.nd noH (n + 1) fr f) (vis s.nd noH (n + 1) fr f)) := by
        rw [seenB_nat] at hs
        have : vis s.nd noH (n + 1) fr f = fr := by
          unfold vis
          rw [if_pos]
          rcases of_decide_eq_true hs with h | h
          · exact .inl h
          · exact .inr (.inl h)
        rw [this]; exact V
      clear V hM ih hs hA
      go_enter Tryz.func64, Tryz.ntmps64
      go_wp2_with fail
      (try simp only [Exit.inBlock, Exit.then])
      refine bodyPost_ret (results_none rfl _ _ _) rfl ?_
      exact ⟨rfl, HV.out⟩
    | false =>
      rw [hs] at lk1
      have hsf := hs
      rw [seenB_nat] at hs
      have hc : ¬ (f < 2 ∨ f ∈ fr ∨ noH f = true) := by
        have := of_decide_eq_false hs
        rintro (h | h | h)
        · exact this (.inl h)
        · exact this (.inr h)
        · cases h
      obtain ⟨⟨v, lo, hi⟩, hx⟩ : ∃ x, s.nd[f]? = some x := ⟨_, List.getElem?_eq_getElem hf⟩
      obtain ⟨t, F, d⟩ := hW.den f hf
      obtain ⟨lo', hi', _, _, _, _, hr, r1, r2, _⟩ := d.row (by omega)
      rw [hx] at hr
      simp only [Option.some.injEq, Prod.mk.injEq] at hr
      obtain ⟨_, rfl, rfl⟩ := hr
      have hvis : vis s.nd noH (n + 1) fr f = vis s.nd noH n (vis s.nd noH n (fr ++ [f]) lo) hi := by
        conv => lhs; unfold vis
        rw [if_neg hc, hx]
      rw [hvis]
      have HM := hide (hM.push hc hf)
      have HM2 := hide (vis_met hW n (fr ++ [f]) lo (by omega) HM.out)
      have HI1 := hide (fun w => ih lo (fr ++ [f]) w (by omega) (by omega) HM.out)
      have HI2 := hide (fun w => ih hi (vis s.nd noH n (fr ++ [f]) lo) w (by omega) (by omega) HM2.out)
      have HVV := hide V
      have HA0 := hide hA
      have HX := hide hx
      have hfl : (fr ++ [f]).length = fr.length + 1 := by simp
      clear ih d V hvis hA hx
      go_enter Tryz.func64, Tryz.ntmps64
      go_wp2_with (at_mapUpdate; go_must (refine wpList_add rfl (.tmp 9) (.tmp 10) _ rfl HVV.out.seen keyed3 Tryz.underlying49 Tryz.underlying4 (by unfold maxLen; omega) enc3_inj rfl (f : Int) _ rfl (key3 f (by omega) (by omega)) rfl ?_))
      simp only [hsf, Bool.false_eq_true, if_false, seenB_push]
      intro w1 hms hmt
      have HV1 := hide (HVV.out.mark hms hmt)
      clear hms hmt lk1 k1 hfl HVV
      have k2 := cell_heap (j := 0) HV1.out.c2 rfl
      go_wp2_with fail
      refine (size1_any f (by omega) HV1.out).mono ?_
      rintro e w3 ⟨rfl, V3⟩
      have HV3 := hide V3
      clear V3 k2 HV1
      go_wp2_with fail
      have r0 : (f : Int) < s.nd.length := by omega
      obtain ⟨_, _, H3, _⟩ := HA0.out.below HV3.out.below
      have g4 : w3.drew.cell? ⟨b3, 0, none⟩ = some _ := cell_heap HV3.out.c3 rfl
      have g2 : w3.drew.cell? ⟨b4, 0, none⟩ = some (.pointer (some ⟨k.p, 0, none⟩)) := cell_heap HV3.out.c4 rfl
      have g5 := H3.drew.c2
      have g6 := (H3.drew.node HX.out).2.1
      go_still_tail 9, (by kernel_rfl)
      change wpList _ _ _ _ _ w3.drew
      have HV4 := hide HV3.out.drew
      generalize w3.drew = w4 at *
      clear g4 g2 g5 g6 H3 HV3
      go_wp2_with fail
      refine (HI1.out _ HV4.out).mono ?_
      rintro e w5 ⟨rfl, V5⟩
      have HV5 := hide V5
      clear V5 HV4
      go_wp2_with fail
      obtain ⟨_, _, H5, _⟩ := HA0.out.below HV5.out.below
      have g4 : w5.drew.cell? ⟨b3, 0, none⟩ = some _ := cell_heap HV5.out.c3 rfl
      have g2 : w5.drew.cell? ⟨b4, 0, none⟩ = some (.pointer (some ⟨k.p, 0, none⟩)) := cell_heap HV5.out.c4 rfl
      have g5 := H5.drew.c2
      have g6 := (H5.drew.node HX.out).2.2
      go_still_tail 9, (by kernel_rfl)
      change wpList _ _ _ _ _ w5.drew
      have HV6 := hide HV5.out.drew
      generalize w5.drew = w6 at *
      clear g4 g2 g5 g6 H5 HV5
      go_wp2_with fail
      refine (HI2.out _ HV6.out).mono ?_
      rintro e w7 ⟨rfl, V7⟩
      have HV7 := hide V7
      clear V7 HV6
      go_wp2_with fail
      go_end0
      exact ⟨rfl, HV7.out⟩
theorem bn_start {w0 w w1 w2 : World} {p bo : Nat} (hB : Below w0.heap.size w0 w) (hbo : w.heap[bo]? = some (.cells #[.int .i64 0] 3 (0, 0))) (l6 : w0.heap.size ≤ bo)
    (ht1 : World.mapTurned (((w.alloc (.cells #[.pointer (some ⟨p, 0, none⟩)] 24)).alloc (.cells #[.func (.func 38) #[] #[.pointer (some ⟨bo, 0, none⟩)]] 85)).alloc (.map #[] 0)) w1 (w.heap.size + 2)) (ht2 : w1.mapTurned w2 (w.heap.size + 2))
    (hm : MSet Tryz.prog w2 21 4 (w.heap.size + 2) 2 2 enc3 fun x => decide (x = 1) || decide (x = 0)) :
    Bn w0 ((w2.alloc (.cells #[.map (some (w.heap.size + 2))] 49)).alloc (.cells #[(.func (.func 64) #[] #[.pointer (some ⟨w2.heap.size, 0, none⟩), .pointer (some ⟨w.heap.size + 1, 0, none⟩), .pointer (some ⟨w2.heap.size + 1, 0, none⟩), .pointer (some ⟨w.heap.size, 0, none⟩)])] 85))
      p w2.heap.size (w.heap.size + 1) (w2.heap.size + 1) w.heap.size (w.heap.size + 2) bo [] [] := by
  have hg := (ht1.trans ht2).grown
  have hs := hg.size
  simp only [World.size_alloc] at hs
  have hsw := hB.size
  have lbo := lt_heap hbo
  have c4 : w2.heap[w.heap.size]? = some (.cells #[.pointer (some ⟨p, 0, none⟩)] 24 (0, 0)) := heap_grown (heap_old (heap_old (heap_new _ _))) hg (opt_ne (by omega))
  have c2 : w2.heap[w.heap.size + 1]? = some (.cells #[.func (.func 38) #[] #[.pointer (some ⟨bo, 0, none⟩)]] 85 (0, 0)) := by
    have := heap_new (w.alloc (.cells #[.pointer (some ⟨p, 0, none⟩)] 24)) (.cells #[.func (.func 38) #[] #[.pointer (some ⟨bo, 0, none⟩)]] 85)
    rw [show (w.alloc (.cells #[.pointer (some ⟨p, 0, none⟩)] 24)).heap.size = w.heap.size + 1 by simp] at this
    exact heap_grown (heap_old this) hg (opt_ne (by omega))
  have co : w2.heap[bo]? = some (.cells #[.int .i64 0] 3 (0, 0)) := heap_grown (heap_old (heap_old (heap_old hbo))) hg (opt_ne (by omega))
  have hb : Below w.heap.size w w2 := ((((Below.refl _ w).alloc (Nat.le_refl _) _).alloc (by simp) _).alloc (by simp; omega) _).grown hg (by simp; omega) (fun b e => by injection e with e; omega)
  have hb0 : Below w0.heap.size w0 w2 := hB.trans (hb.mono hsw)
  refine ⟨heap_old (heap_new _ _), heap_old (heap_old c2), ?_, heap_old (heap_old c4), ?_, heap_old (heap_old co), (hb0.alloc (by omega) _).alloc (by simp; omega) _, by omega, by omega, by omega, by omega, by omega, l6⟩
  · have := heap_new (w2.alloc (.cells #[.map (some (w.heap.size + 2))] 49)) (.cells #[(.func (.func 64) #[] #[.pointer (some ⟨w2.heap.size, 0, none⟩), .pointer (some ⟨w.heap.size + 1, 0, none⟩), .pointer (some ⟨w2.heap.size + 1, 0, none⟩), .pointer (some ⟨w.heap.size, 0, none⟩)])] 85)
    rw [show (w2.alloc (.cells #[.map (some (w.heap.size + 2))] 49)).heap.size = w2.heap.size + 1 by simp] at this
    exact this
  · have e : (fun x : Int => decide (x = 1) || decide (x = 0)) = seenB [] := by rw [← seen_start]; funext x; simp
    rw [e] at hm
    exact (hm.kept (World.grownBy_alloc _ _ none) (by simp)).kept (World.grownBy_alloc _ _ none) (by simp)
def CntdOut (w0 : World) (nd : List Nd) (bo f : Nat) (e : Ending) (w' : World) : Prop := e = .returned (.tuple #[]) ∧ w'.heap[bo]? = some (.cells #[.int .i64 (beneath nd f).length] 3 (0, 0)) ∧ Below w0.heap.size w0 w'
set_option maxHeartbeats 1000000 in
set_option maxRecDepth 100000 in
theorem belowN_any (k : Blk) (s : St) (w0 w : World) (hA : Ar w0 k s) (hm : s.m + 2 ≤ 1000000000) (f bo : Nat) (hf : f < s.nd.length) (hB : Below w0.heap.size w0 w) (hbo : w.heap[bo]? = some (.cells #[.int .i64 0] 3 (0, 0))) (l6 : w0.heap.size ≤ bo) :
    Calls Tryz.prog 37 #[.pointer (some ⟨k.p, 0, none⟩), .int .i32 f, .func (.func 38) #[] #[.pointer (some ⟨bo, 0, none⟩)]] w (CntdOut w0 s.nd bo f) := by
  have HA := hide hA
  have HB := hide (And.intro hB hbo)
  have HMS := hide (MSet.made (P := Tryz.prog) ((w.alloc (.cells #[.pointer (some ⟨k.p, 0, none⟩)] 24)).alloc (.cells #[.func (.func 38) #[] #[.pointer (some ⟨bo, 0, none⟩)]] 85)) 21 4 enc3)
  have hsz : ((w.alloc (.cells #[.pointer (some ⟨k.p, 0, none⟩)] 24)).alloc (.cells #[.func (.func 38) #[] #[.pointer (some ⟨bo, 0, none⟩)]] 85)).heap.size = w.heap.size + 2 := by simp
  rw [hsz] at HMS
  have hmm := @run_makeMap Tryz.prog
  clear hA hB hbo hsz
  go_enter Tryz.func37, Tryz.ntmps37
  go_wp2_with (refine wpList_ins rfl (.tmp 8) _ _ rfl HMS.out keyed3 Tryz.underlying49 Tryz.underlying4 (by unfold maxLen; omega) enc3_inj rfl (0 : Int) _ rfl (key3 0 (by omega) (by omega)) rfl ?_)
  intro w1 hm1 ht1
  have HM1 := hide hm1
  have HT1 := hide ht1
  clear hm1 ht1
  go_wp2_with (refine wpList_ins rfl (.tmp 8) _ _ rfl HM1.out keyed3 Tryz.underlying49 Tryz.underlying4 (by unfold maxLen; omega) enc3_inj rfl (1 : Int) _ rfl (key3 1 (by omega) (by omega)) rfl ?_)
  intro w2 hm2 ht2
  have HM2 := hide hm2
  have HT2 := hide ht2
  clear hm2 ht2
  have HV := hide (bn_start HB.out.1 HB.out.2 l6 HT1.out HT2.out HM2.out)
  go_wp2_with fail
  refine (belown_any k s w0 HA.out hm _ _ _ _ _ _ (f + 1) f [] _ (by omega) hf (Met.nil _ _) HV.out).mono ?_
  rintro e w5 ⟨rfl, V5⟩
  have HX := hide (show CntdOut w0 s.nd bo f (.returned (.tuple #[])) w5 from ⟨rfl, V5.cnt, V5.below⟩)
  clear V5 HV HT1 HT2 HM1 HM2 HMS hmm
  go_wp2_with fail
  go_end0
  exact HX.out

set_option maxHeartbeats 1000000 in
set_option maxRecDepth 100000 in
theorem Size_any (k : Blk) (s : St) (f : Nat) (w : World) (hA : Ar w k s) (g1 : s.gi f = true) (hf : f < s.nd.length) (hm : s.m + 2 ≤ 1000000000) :
    Calls Tryz.prog 15 #[.pointer (some ⟨k.p, 0, none⟩), .int .i64 f] w fun e w' => e = .returned (.tuple #[.int .i64 (beneath s.nd f).length, .int .i64 0]) ∧ Below w.heap.size w w' := by
  have hnm := hA.nm
  have hbl := bel_one w (.cells #[.int .i64 f] 3)
  have HC := hide (check_any k s [(f : Int)] w.heap.size _ (hA.below hbl) (cells1 w f) (by simp; omega) (by simp))
  rw [show [(f : Int)].length = 1 from rfl, gvn_all (s := s) (l := [(f : Int)]) (by simp [g1])] at HC
  have hs2 : (w.alloc (.cells #[.int .i64 f] 3)).heap.size = w.heap.size + 1 := by simp
  have hbn := heap_new (w.alloc (.cells #[.int .i64 f] 3)) (.cells #[.int .i64 0] 3)
  rw [hs2] at hbn
  have HBE := hide (belowN_any k s w ((w.alloc (.cells #[.int .i64 f] 3)).alloc (.cells #[.int .i64 0] 3)) hA hm f (w.heap.size + 1) hf (below_wide hbl (bel_one _ _)) hbn (by omega))
  clear hA g1 hbl hbn hs2
  go_enter Tryz.func15, Tryz.ntmps15
  go_wp2_with fail
  refine HC.out.mono ?_
  rintro e w1 ⟨rfl, rfl⟩
  have hwr : IntKind.i32.wrap (f : Int) = f := wrap3 (by omega) (by omega)
  go_wp2_with fail
  refine HBE.out.mono ?_
  intro e w2 hh
  unfold CntdOut at hh
  obtain ⟨rfl, e3, hB⟩ := hh
  have k1 := cell_heap (j := 0) e3 rfl
  have HB := hide hB
  clear HC HBE e3 hB
  go_wp2_with fail
  go_ret2
  exact ⟨rfl, HB.out⟩
set_option maxRecDepth 100000 in
theorem Size_bad (k : Blk) (s : St) (f : Int) (w : World) (hA : Ar w k s) (h1 : I64 f) (hv : gvn s [f] = 1) :
    Calls Tryz.prog 15 #[.pointer (some ⟨k.p, 0, none⟩), .int .i64 f] w fun e w' => e = .returned (.tuple #[.int .i64 0, .int .i64 1]) ∧ Below w.heap.size w w' := by
  have hbl := bel_one w (.cells #[.int .i64 f] 3)
  have HC := hide (check_any k s [f] w.heap.size _ (hA.below hbl) (cells1 w f) (by simp; omega) (by simp))
  rw [show [f].length = 1 from rfl, hv] at HC
  have HB := hide hbl
  clear hA hbl h1 hv
  go_enter Tryz.func15, Tryz.ntmps15
  go_wp2_with fail
  refine HC.out.mono ?_
  rintro e w1 ⟨rfl, rfl⟩
  go_wp2_with fail
  go_ret2
  exact ⟨rfl, HB.out⟩
end Go.Proofs.YtgfjdkkfgclhjaaGreat.Bd
/- Rename, asked wrongly. -/
namespace Go.Proofs.YtgfjdkkfgclhjaaGreat.Bd
open Go.RowKit Go.Proofs.YtgfjdkkfgclhjaaGreat Go.Proofs.YtgfjdkkfgclhjaaGreat.Lx Go.Maps

theorem intoF_has {x : Nat} : ∀ (n : Nat) {ps : List (Nat × Nat)}, ps.length = n → (∃ p ∈ ps, p.1 = x) → ∃ c, intoF ps x = some c
  | 0, ps, hl, ⟨p, hp, _⟩ => by
    rw [List.eq_nil_of_length_eq_zero hl] at hp
    cases hp
  | n + 1, ps, hl, ⟨p, hp, e⟩ => by
    rcases List.eq_nil_or_concat ps with rfl | ⟨qs, q, rfl⟩
    · cases hl
    · rw [List.concat_eq_append] at hp hl ⊢
      rw [intoF_snoc]
      show ∃ c, (if (x : Int) = (q.1 : Int) then some (q.2 : Int) else intoF qs x) = some c
      by_cases hq : (x : Int) = (q.1 : Int)
      · exact ⟨_, if_pos hq⟩
      · rw [if_neg hq]
        rcases List.mem_append.1 hp with h | h
        · exact intoF_has n (by simpa using hl) ⟨p, h, e⟩
        · rw [List.mem_singleton.1 h] at e
          exact absurd (by omega) hq
theorem zip_take_has {l1 l2 : List Nat} {i x : Nat} (hl : l1.length = l2.length) (h : x ∈ l1.take i) : ∃ p ∈ (l1.zip l2).take i, p.1 = x := by
  obtain ⟨j, hj⟩ := List.mem_iff_getElem?.1 h
  rw [List.getElem?_take] at hj
  split at hj
  · rename_i hji
    have h1 := lt_of_some hj
    refine ⟨(x, l2[j]'(by omega)), List.mem_iff_getElem?.2 ⟨j, ?_⟩, rfl⟩
    rw [List.getElem?_take, if_pos hji]
    exact zip_get hj (List.getElem?_eq_getElem (by omega))
  · cases hj
theorem zip_take_in {l1 l2 : List Nat} {i : Nat} {p : Nat × Nat} (h : p ∈ (l1.zip l2).take i) : p.1 ∈ l1.take i := by
  obtain ⟨j, hj⟩ := List.mem_iff_getElem?.1 h
  rw [List.getElem?_take] at hj
  split at hj
  · rename_i hji
    refine List.mem_iff_getElem?.2 ⟨j, ?_⟩
    rw [List.getElem?_take, if_pos hji]
    exact (List.getElem?_zip_eq_some.1 hj).1
  · cases hj
set_option maxHeartbeats 1000000 in
set_option maxRecDepth 100000 in
theorem Rename_shape (k : Blk) (s : St) (f : Int) (A1 A2 : Option Addr) (c1 c2 : Nat) (l1 l2 : List Int) (w : World) (hA : Ar w k s) (h1 : I64 f) (hv : gvn s [f] = 0) (hS1 : Src w A1 l1.length c1 1 (l1.map encI)) (hS2 : Src w A2 l2.length c2 1 (l2.map encI)) (hn1 : l1.length ≤ maxLen) (hn2 : l2.length ≤ maxLen) (hbad : l1.length ≠ l2.length ∨ knownB s.vs l1 = false ∨ knownB s.vs l2 = false) :
    Calls Tryz.prog 63 #[.pointer (some ⟨k.p, 0, none⟩), .int .i64 f, .slice A1 l1.length c1, .slice A2 l2.length c2] w fun e w' => e = .returned (.tuple #[.int .i64 0, .int .i64 1]) ∧ Below w.heap.size w w' := by
  have hb1 := bel_one w (.cells #[.pointer (some ⟨k.p, 0, none⟩)] 24)
  have x0 := heap_new w (.cells #[.pointer (some ⟨k.p, 0, none⟩)] 24)
  obtain ⟨W, hWd⟩ : ∃ W, W = (w.alloc (.cells #[.pointer (some ⟨k.p, 0, none⟩)] 24)) := ⟨_, rfl⟩
  rw [← hWd] at hb1 x0
  have hsW : W.heap.size = w.heap.size + 1 := by rw [hWd]; simp
  have hbl := below_wide hb1 (bel_one W (.cells #[.int .i64 f] 3))
  have HC := hide (check_any k s [f] W.heap.size _ (hA.below hbl) (cells1 W f) (by simp; omega) (by simp))
  rw [show [f].length = 1 from rfl, hv, hsW] at HC
  have HK1 := hide (known_any k s A1 c1 l1 _ (hA.below hbl) (hS1.below hbl) hn1)
  have HK2 := hide (fun w' (hb : Below w.heap.size w w') => known_any k s A2 c2 l2 w' (hA.below hb) (hS2.below hb) hn2)
  have y0 : (W.alloc (.cells #[.int .i64 f] 3)).cell? ⟨w.heap.size, 0, none⟩ = some (.pointer (some ⟨k.p, 0, none⟩)) := cell_heap (heap_old x0) rfl
  have y9 : W.cell? ⟨w.heap.size, 0, none⟩ = some (.pointer (some ⟨k.p, 0, none⟩)) := cell_heap x0 rfl
  have HX0 := hide (heap_old (p := .cells #[.int .i64 f] 3) x0)
  have HB := hide hbl
  unfold maxLen at hn1 hn2
  clear hA hbl hb1 x0 hsW hv h1 hS1 hS2
  subst hWd
  by_cases hne : l1.length = l2.length
  · have e1 : ((l1.length : Int) != l2.length) = false := by rw [hne]; simp
    have e1' : (l1.length != l2.length) = false := by rw [hne]; simp
    have hbad2 := hbad.resolve_left (fun h => h hne)
    clear hbad hne
    cases hk1 : knownB s.vs l1 with
    | false =>
      rw [hk1] at HK1
      clear hbad2 hk1
      go_enter Tryz.func63, Tryz.ntmps63
      go_wp2_with fail
      refine HC.out.mono ?_
      rintro e w1 ⟨rfl, rfl⟩
      go_wp2_with fail
      refine HK1.out.mono ?_
      rintro e w2 ⟨rfl, hb⟩
      have HB2 := hide (below_wide HB.out hb)
      clear hb
      go_wp2_with fail
      go_ret2
      exact ⟨rfl, HB2.out⟩
    | true =>
      have hk2 := hbad2.resolve_left (by rw [hk1]; decide)
      rw [hk1] at HK1
      clear hbad2 hk1
      go_enter Tryz.func63, Tryz.ntmps63
      go_wp2_with fail
      refine HC.out.mono ?_
      rintro e w1 ⟨rfl, rfl⟩
      go_wp2_with fail
      refine HK1.out.mono ?_
      rintro e w2 ⟨rfl, hb⟩
      have HB2 := hide (below_wide HB.out hb)
      have y2 : w2.cell? ⟨w.heap.size, 0, none⟩ = some (.pointer (some ⟨k.p, 0, none⟩)) := cell_heap (heapB hb HX0.out) rfl
      have HK3 := hide (HK2.out w2 HB2.out)
      rw [hk2] at HK3
      clear hb y0 y9 hk2
      go_wp2_with fail
      refine HK3.out.mono ?_
      rintro e w3 ⟨rfl, hb⟩
      have HB3 := hide (below_wide HB2.out hb)
      clear hb
      go_wp2_with fail
      go_ret2
      exact ⟨rfl, HB3.out⟩
  · have e1 : ((l1.length : Int) != l2.length) = true := bne_iff_ne.2 (by omega)
    have e1' : (l1.length != l2.length) = true := bne_iff_ne.2 hne
    clear hbad hne
    go_enter Tryz.func63, Tryz.ntmps63
    go_wp2_with fail
    refine HC.out.mono ?_
    rintro e w1 ⟨rfl, rfl⟩
    go_wp2_with fail
    go_ret2
    exact ⟨rfl, HB.out⟩
set_option maxHeartbeats 8000000 in
set_option maxRecDepth 100000 in
theorem Rename_twice (k : Blk) (s : St) (f : Int) (A1 A2 : Option Addr) (c1 c2 : Nat) (l1 l2 : List Nat) (w : World) (hA : Ar w k s) (ad : Adm s) (h1 : I64 f) (hv : gvn s [f] = 0) (hS1 : Src w A1 l1.length c1 1 ((encL l1).map encI)) (hS2 : Src w A2 l2.length c2 1 ((encL l2).map encI)) (hln : l1.length ≤ maxLen) (he : l1.length = l2.length) (hnd : ¬ l1.Nodup) (hl1 : ∀ x ∈ l1, x < s.vs) (hl2 : ∀ x ∈ l2, x < s.vs) :
    Calls Tryz.prog 63 #[.pointer (some ⟨k.p, 0, none⟩), .int .i64 f, .slice A1 l1.length c1, .slice A2 l2.length c2] w fun e w' => e = .returned (.tuple #[.int .i64 0, .int .i64 1]) ∧ Below w.heap.size w w' := by
  have hvs := ad.vs
  have hb1 := bel_one w (.cells #[.pointer (some ⟨k.p, 0, none⟩)] 24)
  have x0 := heap_new w (.cells #[.pointer (some ⟨k.p, 0, none⟩)] 24)
  obtain ⟨W, hWd⟩ : ∃ W, W = (w.alloc (.cells #[.pointer (some ⟨k.p, 0, none⟩)] 24)) := ⟨_, rfl⟩
  rw [← hWd] at hb1 x0
  have hsW : W.heap.size = w.heap.size + 1 := by rw [hWd]; simp
  have hbl := below_wide hb1 (bel_one W (.cells #[.int .i64 f] 3))
  have HC := hide (check_any k s [f] W.heap.size _ (hA.below hbl) (cells1 W f) (by simp; omega) (by simp))
  rw [show [f].length = 1 from rfl, hv, hsW] at HC
  have HK1 := hide (known_any k s A1 c1 (encL l1) _ (hA.below hbl) (by rw [encL_len]; exact hS1.below hbl) (by rw [encL_len]; exact hln))
  rw [encL_len, knownB_of hl1] at HK1
  have HK2 := hide (fun w' (hb : Below w.heap.size w w') => known_any k s A2 c2 (encL l2) w' (hA.below hb) (by rw [encL_len]; exact hS2.below hb) (by rw [encL_len, ← he]; exact hln))
  rw [encL_len, knownB_of hl2] at HK2
  have y0 : (W.alloc (.cells #[.int .i64 f] 3)).cell? ⟨w.heap.size, 0, none⟩ = some (.pointer (some ⟨k.p, 0, none⟩)) := cell_heap (heap_old x0) rfl
  have y9 : W.cell? ⟨w.heap.size, 0, none⟩ = some (.pointer (some ⟨k.p, 0, none⟩)) := cell_heap x0 rfl
  have HX0 := hide (heap_old (p := .cells #[.int .i64 f] 3) x0)
  have hne : ((l1.length : Int) != l2.length) = false := by rw [he]; simp
  have HBL := hide hbl
  have HS1 := hide hS1
  have HS2 := hide hS2
  have HL1 := hide hl1
  have HL2 := hide hl2
  have HN := hide hnd
  have HE := hide he
  unfold maxLen at hln
  have hn2 : l2.length ≤ 9223372036854775807 := by omega
  have hmm := @run_makeMap Tryz.prog
  clear hA hbl ad hb1 x0 hsW hS1 hS2 hl1 hl2 hnd he h1 hv
  subst hWd
  go_enter Tryz.func63, Tryz.ntmps63
  go_wp2_with fail
  refine HC.out.mono ?_
  rintro e w1 ⟨rfl, rfl⟩
  go_wp2_with fail
  refine HK1.out.mono ?_
  rintro e w2 ⟨rfl, hb⟩
  have z0 := hide (heapB hb HX0.out)
  have HB2 := hide (below_wide HBL.out hb)
  have y2 : w2.cell? ⟨w.heap.size, 0, none⟩ = some (.pointer (some ⟨k.p, 0, none⟩)) := cell_heap z0.out rfl
  clear hb HX0 HC HK1 y0 y9
  go_wp2_with fail
  refine (HK2.out _ HB2.out).mono ?_
  rintro e w3 ⟨rfl, hb⟩
  have HB3 := hide (below_wide HB2.out hb)
  have s3 := HB3.out.size
  clear hb HK2 z0 y2
  go_wp2_with fail
  have hr0 := hide (rn_start w3 (l1.zip l2))
  generalize (w3.alloc (.map #[] 0)).alloc (.cells #[.map (some w3.heap.size)] 120) = w4 at *
  go_loopw [12, 13, 14, 15, 43] (fun _ _ _ _ j wr => ∃ i : Nat, j = .int .i64 i ∧ i ≤ l1.length ∧ (l1.take i).Nodup ∧ Rn w3 wr (l1.zip l2) i) (fun _ _ _ _ j _ => l1.length - (intOf j).toNat)
  case atStart => exact ⟨0, rfl, Nat.zero_le _, by simp, hr0.out⟩
  case round =>
    obtain ⟨i, rfl, hi, hnod, hRn⟩ := hrel
    have HND := hide hnod
    rcases Nat.lt_or_ge i l1.length with hlt | hge
    · have hlen := HE.out
      obtain ⟨x, hx⟩ : ∃ x, l1[i]? = some x := ⟨_, List.getElem?_eq_getElem hlt⟩
      obtain ⟨y, hy⟩ : ∃ y, l2[i]? = some y := ⟨_, List.getElem?_eq_getElem (by omega)⟩
      have d1 : decide (i < l1.length) = true := by simpa using hlt
      have d2 : ((i : Int) < l1.length) := by omega
      have d3 : ((i : Int) < l2.length) := by omega
      have hxs := HL1.out x (List.mem_of_getElem? hx)
      have hys := HL2.out y (List.mem_of_getElem? hy)
      obtain ⟨ad1, rfl, hc1⟩ := src_at (Src.below HS1.out (below_wide HB3.out hRn.b)) (i := i) (x := (x : Int)) (by unfold encL; rw [List.getElem?_map, hx]; rfl)
      obtain ⟨ad2, rfl, hc2⟩ := src_at (Src.below HS2.out (below_wide HB3.out hRn.b)) (i := i) (x := (y : Int)) (by unfold encL; rw [List.getElem?_map, hy]; rfl)
      have k1 := cell_heap (j := 0) hRn.c rfl
      have hwx : IntKind.i32.wrap (x : Int) = x := wrap3 (by omega) (by omega)
      have hwy : IntKind.i32.wrap (y : Int) = y := wrap3 (by omega) (by omega)
      have himax : i ≤ 256 := by
        have h1 := List.Nodup.length_le_of_subset (l₂ := List.range s.vs) hnod (fun z hz => List.mem_range.2 (HL1.out z (List.mem_of_mem_take hz)))
        rw [List.length_take, List.length_range] at h1
        omega
      by_cases hin : x ∈ l1.take i
      · obtain ⟨cc, hcc⟩ := intoF_has _ rfl (zip_take_has HE.out hin)
        have lk : (Instr.lookup 120 (.map (some w3.heap.size)) (.int .i32 x) true).run Tryz.prog wr = .ok (.tuple #[.int .i32 cc, .bool true]) wr := by
          have := hRn.m.look keyed3 Tryz.underlying120 Tryz.underlying21 (zero3 _) (key3 x (by omega) (by omega))
          rw [hcc] at this
          exact this
        have HBX := hide (below_wide HB3.out hRn.b)
        clear hRn hx hy hlen hin hcc hnod
        go_wp2_with fail
        go_ret2
        exact ⟨rfl, HBX.out⟩
      · have hnone : intoF ((l1.zip l2).take i) x = none := intoF_none (fun p hp e => hin (e ▸ zip_take_in hp))
        have lk : (Instr.lookup 120 (.map (some w3.heap.size)) (.int .i32 x) true).run Tryz.prog wr = .ok (.tuple #[.int .i32 0, .bool false]) wr := by
          have := hRn.m.look keyed3 Tryz.underlying120 Tryz.underlying21 (zero3 _) (key3 x (by omega) (by omega))
          rw [hnone] at this
          exact this
        have k1' : wr.drew.cell? ⟨w3.heap.size + 1, 0, none⟩ = some (.map (some w3.heap.size)) := k1
        have hc2' : wr.drew.cell? (ad2.add i) = some (.int .i64 y) := hc2
        have HRN := hide (show Rn w3 wr.drew (l1.zip l2) i from ⟨hRn.b.drew, hRn.c, hRn.m.kept (below_grown (Below.refl _ wr).drew none) (by simp)⟩)
        have hx3 := key3 (x : Int) (by omega) (by omega)
        have hwf : (Lit.int .i32 y).wf = true := wf3 (by omega) (by omega)
        have himax2 : i < maxLen := by unfold maxLen; omega
        have HXY := hide (And.intro hx hy)
        have HND2 := hide (show (l1.take (i + 1)).Nodup from by
          rw [List.take_add_one, hx]
          exact List.nodup_append.2 ⟨hnod, by simp, fun a ha b hb e => by simp at hb; exact hin (hb ▸ e ▸ ha)⟩)
        clear hRn hnone hx hy hlen hin hnod
        go_wp2_with fail
        go_still_tail 8, (by kernel_rfl)
        change wpList _ _ _ _ _ wr.drew
        generalize wr.drew = w5 at *
        go_wp2_with (at_mapUpdate; go_must (refine wpList_put rfl (.tmp 56) (.tmp 58) (.tmp 63) rfl HRN.out.m keyed3 Tryz.underlying120 Tryz.underlying21 himax2 enc3_inj rfl (x : Int) _ rfl hx3 (y : Int) rfl hwf ?_))
        intro w6 hmi hmt
        have HR6 := hide (HRN.out.next HXY.out.1 HXY.out.2 hmi hmt)
        clear hmi hmt
        go_wp2_with fail
        go_roundw
        case rel => exact ⟨i + 1, by go_num, by omega, HND2.out, HR6.out⟩
        case measure => simp [intOf]; omega
    · exfalso
      obtain rfl : i = l1.length := by omega
      rw [List.take_length] at hnod
      exact HN.out hnod
end Go.Proofs.YtgfjdkkfgclhjaaGreat.Bd
/- The law's play in memory; of, node, known, twice, sameInts, sameBits: walked. -/
namespace Go.Proofs.YtgfjdkkfgclhjaaGreat.Bd
open Go.RowKit Go.Proofs.YtgfjdkkfgclhjaaGreat Go.Proofs.YtgfjdkkfgclhjaaGreat.Lx Go.Maps

theorem beq_if {a b : Int} (h : ¬ a = b) : (a == b) = false := beq_eq_false_iff_ne.2 h
theorem beq_it {a b : Int} (h : a = b) : (a == b) = true := beq_iff_eq.2 h
/-- which types the arena's own blocks of cells have -/
theorem fp_type {w : World} {k : Blk} {s : St} (hA : Ar w k s) {i : Nat} {cs : Array Value} {t : TypeId} (h : w.heap[i]? = some (.cells cs t (0, 0))) (h1 : t ≠ 51) (h2 : t ≠ 44) : ¬ fp k i := by
  obtain ⟨fb, ft, H, _⟩ := hA
  obtain ⟨cur, hg⟩ := H.row
  obtain ⟨N, hgi⟩ := H.gi
  rintro (rfl | rfl | rfl | rfl | rfl | rfl)
  · have := H.p
    rw [h] at this
    injection this with e
    injection e with _ e
    exact h1 e
  · rw [h] at hg
    injection hg with e
    injection e with _ e
    exact h2 e
  · obtain ⟨es, cl, h'⟩ := H.bm.heap
    rw [h] at h'; cases h'
  · obtain ⟨es, cl, h'⟩ := H.it.heap
    rw [h] at h'; cases h'
  · obtain ⟨es, cl, h'⟩ := hgi.heap
    rw [h] at h'; cases h'
  · obtain ⟨es, cl, h'⟩ := H.he.heap
    rw [h] at h'; cases h'
theorem fp_own {w : World} {k : Blk} {s : St} (hA : Ar w k s) {base size n : Nat} {t : TypeId} {v : Value} {xs : List Value} (ho : w.ownsRow base t size v n xs) (h1 : t ≠ 51) (h2 : t ≠ 44) : ∀ g, v.ownBlock = some g → ¬ fp k g := by
  intro g hg
  obtain ⟨cur, hc⟩ := own_cells ho g hg
  exact fp_type hA hc h1 h2
theorem own_turn {w w' : World} {k k' : Blk} {s : St} (hA : Ar w k s) (T : Turn k k' w w') {base size n : Nat} {t : TypeId} {v : Value} {xs : List Value} (ho : w.ownsRow base t size v n xs) (h1 : t ≠ 51) (h2 : t ≠ 44) : w'.ownsRow base t size v n xs := by
  rcases ho.2 with ⟨rfl, hz⟩ | ⟨g, c, cur, rfl, q1, q2, q3, q4, q5, q6⟩
  · exact ⟨ho.1, .inl ⟨rfl, hz⟩⟩
  · exact ⟨ho.1, .inr ⟨g, c, cur, rfl, q1, T.heap q2 (fp_type hA q2 h1 h2), q3, q4, q5, q6⟩⟩
theorem Bools.turn {w w' : World} {k k' : Blk} {s : St} (hA : Ar w k s) (T : Turn k k' w w') : Bools w w' := fun g U hr => by
  obtain ⟨cur, h1, h2⟩ := hr
  exact ⟨cur, T.heap h1 (fp_type hA h1 (by decide) (by decide)), h2⟩
/-- blocks that the play and the arena leave as they are -/
abbrev Away (t : TypeId) : Prop := t ≠ 51 ∧ t ≠ 44 ∧ t ≠ 37 ∧ t ≠ 32 ∧ t ≠ 9
/-- the play in memory -/
structure PlM (D : Nat → Array Value → TypeId → Prop) (B : Nat) (w : World) (pp : Nat) (k : Blk) (s : St) (n ms : Nat) (ns : List Nat) (Vn : Value) (ts : List Tb) (vs : List Value) (Vt : Value) (Hs : List Tb) (Vh : Value) : Prop where
  h : w.heap[pp]? = some (.cells #[.pointer (some ⟨k.p, 0, none⟩), .int .i64 n, .int .i64 ms, Vn, Vt, Vh] 37 (0, 0))
  nodes : IRow B w Vn ns
  tabs : TRow B w Vt ts vs
  held : w.ownsRow B 9 1 Vh Hs.length (encT Hs)
  ar : Ar w k s
  lo : B ≤ pp
  fpl : ∀ i, fp k i → B ≤ i
  ps : ∀ g cs t, D g cs t → w.heap[g]? = some (.cells cs t (0, 0)) ∧ Away t ∧ Vn.ownBlock ≠ some g
section
variable {D : Nat → Array Value → TypeId → Prop} {B : Nat} {w w' : World} {pp : Nat} {k k' : Blk} {s s' : St} {n ms : Nat} {ns : List Nat} {Vn : Value} {ts : List Tb} {vs : List Value} {Vt : Value} {Hs : List Tb} {Vh : Value}
theorem PlM.below (h : PlM D B w pp k s n ms ns Vn ts vs Vt Hs Vh) (hb : Below w.heap.size w w') : PlM D B w' pp k s n ms ns Vn ts vs Vt Hs Vh :=
  ⟨heapB hb h.h, own_below h.nodes hb, h.tabs.below hb, own_below h.held hb, h.ar.below hb, h.lo, h.fpl, fun g cs t d => ⟨heapB hb (h.ps g cs t d).1, (h.ps g cs t d).2⟩⟩
theorem PlM.nfp (h : PlM D B w pp k s n ms ns Vn ts vs Vt Hs Vh) : ¬ fp k pp := fp_type h.ar h.h (by decide) (by decide)
theorem fpl_turn (hf : ∀ i, fp k i → B ≤ i) (T : Turn k k' w w') (hB : B ≤ w.heap.size) : ∀ i, fp k' i → B ≤ i := by
  intro i hi
  unfold fp at hi hf
  rw [T.p, T.bm, T.it, T.gi, T.he] at hi
  rcases hi with e | e | e | e | e | e
  · exact hf i (.inl e)
  · rcases T.row with h | h
    · exact hf i (.inr (.inl (by rw [e, h])))
    · omega
  · exact hf i (.inr (.inr (.inl e)))
  · exact hf i (.inr (.inr (.inr (.inl e))))
  · exact hf i (.inr (.inr (.inr (.inr (.inl e)))))
  · exact hf i (.inr (.inr (.inr (.inr (.inr e)))))
theorem PlM.lt (h : PlM D B w pp k s n ms ns Vn ts vs Vt Hs Vh) : pp < w.heap.size := lt_heap h.h
/-- after a call of the arena -/
theorem PlM.turn (h : PlM D B w pp k s n ms ns Vn ts vs Vt Hs Vh) (T : Turn k k' w w') (hA : Ar w' k' s') : PlM D B w' pp k' s' n ms ns Vn ts vs Vt Hs Vh := by
  refine ⟨?_, own_turn h.ar T h.nodes (by decide) (by decide), ⟨own_turn h.ar T h.tabs.own (by decide) (by decide), h.tabs.tv.to (Bools.turn h.ar T)⟩, own_turn h.ar T h.held (by decide) (by decide), hA, h.lo, fpl_turn h.fpl T (Nat.le_trans h.lo (Nat.le_of_lt h.lt)), fun g cs t d => ⟨T.heap (h.ps g cs t d).1 (fp_type h.ar (h.ps g cs t d).1 (h.ps g cs t d).2.1.1 (h.ps g cs t d).2.1.2.1), (h.ps g cs t d).2⟩⟩
  rw [T.p]
  exact T.heap h.h h.nfp
theorem PlM.cell (h : PlM D B w pp k s n ms ns Vn ts vs Vt Hs Vh) {j : Nat} {u : Value} (hj : (#[Value.pointer (some ⟨k.p, 0, none⟩), .int .i64 n, .int .i64 ms, Vn, Vt, Vh] : Array Value)[j]? = some u) : w.cell? ⟨pp, j, none⟩ = some u := cell_heap h.h hj
theorem PlM.open_ (h : PlM D B w pp k s n ms ns Vn ts vs Vt Hs Vh) : ∃ A c A2 c2 A3 c3, Vn = .slice A ns.length c ∧ Vt = .slice A2 ts.length c2 ∧ Vh = .slice A3 Hs.length c3 := by
  obtain ⟨A, c, e⟩ := own_slice h.nodes
  obtain ⟨A2, c2, e2⟩ := own_slice h.tabs.own
  obtain ⟨A3, c3, e3⟩ := own_slice h.held
  exact ⟨A, c, A2, c2, A3, c3, e, e2, e3⟩
/-- the place of an argument -/
def ofP (m : Nat) (i : Int) : Int := if i < 0 then -1 else i % (m : Int)
def nodeP (ns : List Nat) (i : Int) : Int := if i < 0 then -1 else ((ns.getD (i.toNat % ns.length) 0 : Nat) : Int)
theorem ofP_pos {m : Nat} {i : Int} (h : 0 ≤ i) : ofP m i = ((i.toNat % m : Nat) : Int) := by
  unfold ofP
  rw [if_neg (by omega)]
  obtain ⟨a, rfl⟩ := Int.eq_ofNat_of_zero_le h
  simp
theorem ofP_neg {m : Nat} {i : Int} (h : i < 0) : ofP m i = -1 := if_pos h
set_option maxRecDepth 100000 in
theorem of_any (h : PlM D B w pp k s n ms ns Vn ts vs Vt Hs Vh) (h2 : 2 ≤ ns.length) (h3 : ns.length ≤ 1000000) (i : Int) (hi : I64 i) : Calls Tryz.prog 12 #[.pointer (some ⟨pp, 0, none⟩), .int .i64 i] w fun e w' => e = .returned (.int .i64 (ofP ns.length i)) ∧ w = w' := by
  obtain ⟨A, c, _, _, _, _, rfl, -, -⟩ := h.open_
  have c3 := h.cell (j := 3) rfl
  clear h
  by_cases hn : i < 0
  · have d1 : decide (i < 0) = true := decide_eq_true hn
    have HE := hide (ofP_neg (m := ns.length) hn)
    clear hn
    go_enter Tryz.func12, Tryz.ntmps12
    go_wp2_with fail
    go_ret
    exact ⟨by rw [HE.out]; rfl, rfl⟩
  · have d1 : decide (i < 0) = false := decide_eq_false hn
    have HE := hide (ofP_pos (m := ns.length) (show 0 ≤ i by omega))
    obtain ⟨a, rfl⟩ := Int.eq_ofNat_of_zero_le (show 0 ≤ i by omega)
    have hz : ((ns.length : Int) == 0) = false := beq_if (by omega)
    have hz2 : ((ns.length : Int) != 0) = true := bne_iff_ne.2 (by omega)
    have hz3 : (0 : Int) < (ns.length : Int) := by omega
    have hmm : ((a : Int).tmod (ns.length : Int)) = ((a % ns.length : Nat) : Int) := by rw [Int.tmod_eq_emod_of_nonneg (by omega)]; simp
    clear hn
    go_enter Tryz.func12, Tryz.ntmps12
    go_wp2_with fail
    go_ret
    refine ⟨?_, rfl⟩
    rw [HE.out, Int.toNat_natCast]
    first | rfl | (simp [hmm]; done)
set_option maxRecDepth 100000 in
theorem node_any (h : PlM D B w pp k s n ms ns Vn ts vs Vt Hs Vh) (h2 : 2 ≤ ns.length) (h3 : ns.length ≤ 1000000) (i : Int) (hi : I64 i) : Calls Tryz.prog 14 #[.pointer (some ⟨pp, 0, none⟩), .int .i64 i] w fun e w' => e = .returned (.int .i64 (nodeP ns i)) ∧ Below w.heap.size w w' := by
  obtain ⟨A, c, _, _, _, _, hvn, -, -⟩ := h.open_
  have HOF := hide (fun w' (hb : Below w.heap.size w w') => of_any (h.below hb) h2 h3 i hi)
  have c3 := h.cell (j := 3) rfl
  have hsrc := hvn ▸ h.nodes
  subst hvn
  have HO := hide (HOF.out w (Below.refl _ _))
  by_cases hn : i < 0
  · rw [ofP_neg hn] at HO
    have HE := hide (show nodeP ns i = -1 from if_pos hn)
    clear hn h hsrc
    go_enter Tryz.func14, Tryz.ntmps14
    go_wp2_with fail
    refine HO.out.mono ?_
    rintro e w1 ⟨rfl, hw⟩
    subst w1
    go_wp2_with fail
    go_ret
    exact ⟨by rw [HE.out]; rfl, Below.refl _ _⟩
  · have hp := ofP_pos (m := ns.length) (show 0 ≤ i by omega)
    rw [hp] at HO
    have hlt : i.toNat % ns.length < ns.length := Nat.mod_lt _ (by omega)
    have HE := hide (show nodeP ns i = ((ns.getD (i.toNat % ns.length) 0 : Nat) : Int) from if_neg hn)
    rw [hp] at HOF
    generalize i.toNat % ns.length = a at *
    obtain ⟨x, hx⟩ : ∃ x, ns[a]? = some x := ⟨_, List.getElem?_eq_getElem hlt⟩
    have HX := hide (show ns.getD a 0 = x from by rw [List.getD_eq_getElem?_getD, hx]; rfl)
    obtain ⟨ad, rfl, x0⟩ := src_at hsrc.src (enc_at hx)
    have c31 := lat_cell c3
    have x1 := lat_cell x0
    have d0 : decide ((a : Int) < 0) = false := decide_eq_false (by omega)
    have d1 : ((a : Int) < (ns.length : Int)) := by omega
    clear hn h hsrc hp hx hlt
    go_enter Tryz.func14, Tryz.ntmps14
    go_wp2_with fail
    refine HO.out.mono ?_
    rintro e w1 ⟨rfl, hw⟩
    subst w1
    go_wp2_with fail
    refine wp_region_lat (by kernel_rfl) (by kernel_rfl) ?_
    repeat (first | go_big_quiet_step ((go_at_call 12; exact calls_lat_same (HOF.out _ (lat_below _ _)))) | quiet_step ((go_at_call 12; exact calls_lat_same (HOF.out _ (lat_below _ _)))))
    refine wpQuiet_nil ?_
    intro _ hlat
    obtain ⟨wq, rfl⟩ := hlat
    go_wp2_with fail
    go_ret
    exact ⟨by rw [HE.out, HX.out]; rfl, lat_below _ _⟩
set_option maxRecDepth 100000 in
theorem pknown_any (h : PlM D B w pp k s n ms ns Vn ts vs Vt Hs Vh) (A : Option Addr) (c : Nat) (l : List Int) (hS : Src w A l.length c 1 (l.map encI)) (hln : l.length ≤ maxLen) : Calls Tryz.prog 26 #[.pointer (some ⟨pp, 0, none⟩), .slice A l.length c] w fun e w' => e = .returned (.bool (knownB n l)) ∧ Below w.heap.size w w' := by
  have HH := hide h
  have HS := hide hS
  unfold maxLen at hln
  have HK1 := hide (fun (x : Int) (hx : x ∈ l) (ho : outB n x = true) => show knownB n l = false from by
    unfold knownB
    rw [show l.any (outB n) = true from List.any_eq_true.2 ⟨x, hx, ho⟩]
    rfl)
  have HK2 := hide (fun (hx : ∀ x ∈ l, outB n x = false) => show knownB n l = true from by
    unfold knownB
    rw [show l.any (outB n) = false from List.any_eq_false.2 (fun x hm => by rw [hx x hm]; exact Bool.false_ne_true)]
    rfl)
  clear h hS
  generalize knownB n l = res at *
  go_enter Tryz.func26, Tryz.ntmps26
  go_wp2_with fail
  go_loopw [5] (fun j wr => ∃ i : Nat, j = .int .i64 i ∧ i ≤ l.length ∧ (∀ x ∈ l.take i, outB n x = false) ∧ Below w.heap.size w wr) (fun j _ => l.length - (intOf j).toNat)
  case atStart => exact ⟨0, rfl, Nat.zero_le _, fun x hx => by simp at hx, Below.refl _ _⟩
  case round =>
    obtain ⟨i, rfl, hi, hno, hb⟩ := hrel
    have HNO := hide hno
    have HB := hide hb
    rcases Nat.lt_or_ge i l.length with hlt | hge
    · have d1 : decide (i < l.length) = true := decide_eq_true hlt
      have d1' : decide ((i : Int) < (l.length : Int)) = true := decide_eq_true (by omega)
      have d2 : ((i : Int) < (l.length : Int)) := by omega
      obtain ⟨x, hx⟩ : ∃ x, l[i]? = some x := ⟨_, List.getElem?_eq_getElem hlt⟩
      obtain ⟨a, rfl, x0⟩ := src_at (HS.out.below hb) hx
      have x1 := lat_cell x0
      have y1 := lat_cell ((HH.out.below hb).cell (j := 1) rfl)
      have HX := hide (List.mem_of_getElem? hx)
      have HXE := hide hx
      have HLT := hide hlt
      clear hno hb hx hlt x0
      by_cases g1 : x < 0
      · have f1 : decide (x < 0) = true := decide_eq_true g1
        have HF := hide (HK1.out x HX.out (by unfold outB; rw [f1]; rfl))
        clear g1
        go_wp2_with fail
        refine wp_region_lat (by kernel_rfl) (by kernel_rfl) ?_
        repeat (first | go_big_quiet_step ((fail)) | quiet_step ((fail)))
        refine wpQuiet_nil ?_
        intro _ hlat
        obtain ⟨wq, rfl⟩ := hlat
        go_wp2_with fail
        go_ret
        exact ⟨by rw [HF.out]; rfl, below_wide HB.out (lat_below _ _)⟩
      have f1 : decide (x < 0) = false := decide_eq_false g1
      by_cases g2 : (n : Int) ≤ x
      · have f2 : decide ((n : Int) ≤ x) = true := decide_eq_true g2
        have HF := hide (HK1.out x HX.out (by unfold outB; rw [f1, f2]; rfl))
        clear g1 g2
        go_wp2_with fail
        refine wp_region_lat (by kernel_rfl) (by kernel_rfl) ?_
        repeat (first | go_big_quiet_step ((fail)) | quiet_step ((fail)))
        refine wpQuiet_nil ?_
        intro _ hlat
        obtain ⟨wq, rfl⟩ := hlat
        go_wp2_with fail
        go_ret
        exact ⟨by rw [HF.out]; rfl, below_wide HB.out (lat_below _ _)⟩
      have f2 : decide ((n : Int) ≤ x) = false := decide_eq_false g2
      have HN2 := hide (show ∀ y ∈ l.take (i + 1), outB n y = false from fun y hy => by
        rw [List.take_add_one, HXE.out] at hy
        rcases List.mem_append.1 hy with h | h
        · exact HNO.out y h
        · simp at h
          subst h
          unfold outB
          rw [f1, f2]
          rfl)
      clear g1 g2
      go_wp2_with fail
      refine wp_region_lat (by kernel_rfl) (by kernel_rfl) ?_
      repeat (first | go_big_quiet_step ((fail)) | quiet_step ((fail)))
      refine wpQuiet_nil ?_
      intro _ hlat
      obtain ⟨wq, rfl⟩ := hlat
      go_wp2_with fail
      go_roundw
      case rel => exact ⟨i + 1, by go_num, HLT.out, HN2.out, below_wide HB.out (lat_below _ _)⟩
      case measure => have := HLT.out; simp [intOf]; omega
    · obtain rfl : i = l.length := by omega
      have d1 : decide (l.length < l.length) = false := decide_eq_false (by omega)
      have d1' : decide ((l.length : Int) < (l.length : Int)) = false := decide_eq_false (by omega)
      rw [List.take_length] at hno
      have HE := hide (HK2.out hno)
      clear hno hb
      go_wp2_with fail
      go_ret
      exact ⟨by rw [HE.out]; rfl, HB.out⟩
end
set_option maxRecDepth 100000 in
theorem twice_any (A : Option Addr) (c : Nat) (l : List Int) (w : World) (hS : Src w A l.length c 1 (l.map encI)) (hln : l.length ≤ maxLen) : Calls Tryz.prog 27 #[.slice A l.length c] w fun e w' => (∃ b, e = .returned (.bool b) ∧ (b = true ↔ ¬ l.Nodup)) ∧ Below w.heap.size w w' := by
  have HS := hide hS
  unfold maxLen at hln
  clear hS
  go_enter Tryz.func27, Tryz.ntmps27
  go_wp2_with fail
  go_loopw [3, 4] (fun j _ wr => ∃ i : Nat, j = .int .i64 i ∧ i ≤ l.length ∧ (l.take i).Nodup ∧ Below w.heap.size w wr) (fun j _ _ => l.length - (intOf j).toNat)
  case atStart => exact ⟨0, rfl, Nat.zero_le _, by simp, Below.refl _ _⟩
  case round =>
    obtain ⟨i, rfl, hi, hno, hb⟩ := hrel
    have HNO := hide hno
    have HB := hide hb
    rcases Nat.lt_or_ge i l.length with hlt | hge
    · have d1 : decide (i < l.length) = true := decide_eq_true hlt
      have d1' : decide ((i : Int) < (l.length : Int)) = true := decide_eq_true (by omega)
      have d2 : ((i : Int) < (l.length : Int)) := by omega
      obtain ⟨x, hx⟩ : ∃ x, l[i]? = some x := ⟨_, List.getElem?_eq_getElem hlt⟩
      have HX := hide hx
      have HLT := hide hlt
      clear hno hb hx hlt
      go_wp2_with fail
      go_loopw [4] (fun j wr => ∃ q : Nat, j = .int .i64 q ∧ q ≤ i ∧ x ∉ l.take q ∧ Below w.heap.size w wr) (fun j _ => i - (intOf j).toNat)
      case atStart => exact ⟨0, rfl, Nat.zero_le _, by simp, HB.out⟩
      case round =>
        obtain ⟨q, rfl, hq, hnq, hbq⟩ := hrel
        have HNQ := hide hnq
        have HBQ := hide hbq
        rcases Nat.lt_or_ge q i with hql | hqg
        · have e1 : decide (q < i) = true := decide_eq_true hql
          have e1' : decide ((q : Int) < (i : Int)) = true := decide_eq_true (by omega)
          have e2 : ((q : Int) < (l.length : Int)) := by omega
          obtain ⟨y, hy⟩ : ∃ y, l[q]? = some y := ⟨_, List.getElem?_eq_getElem (by omega)⟩
          obtain ⟨a, rfl, x0⟩ := src_at (HS.out.below hbq) HX.out
          obtain ⟨a', e', y0⟩ := src_at (HS.out.below hbq) hy
          cases e'
          have x1 := lat_cell x0
          have y1 := lat_cell y0
          have HY := hide hy
          have HQL := hide hql
          clear hnq hbq hy hql x0 y0
          by_cases g : x = y
          · have f1 : (x == y) = true := beq_iff_eq.2 g
            have f2 : decide (x = y) = true := decide_eq_true g
            have HF := hide (show ¬ l.Nodup from fun hn => by
              have h1 := List.pairwise_iff_getElem.1 hn q i (by have := HLT.out; have := HQL.out; omega) HLT.out HQL.out
              have h2 := HY.out
              have h3 := HX.out
              rw [List.getElem?_eq_getElem (by have := HLT.out; have := HQL.out; omega)] at h2
              rw [List.getElem?_eq_getElem HLT.out] at h3
              exact h1 (by rw [Option.some.inj h2, Option.some.inj h3, g]))
            clear g
            go_wp2_with fail
            refine wp_region_lat (by kernel_rfl) (by kernel_rfl) ?_
            repeat (first | go_big_quiet_step ((fail)) | quiet_step ((fail)))
            refine wpQuiet_nil ?_
            intro _ hlat
            obtain ⟨wq, rfl⟩ := hlat
            go_wp2_with fail
            go_ret
            exact ⟨⟨true, rfl, ⟨fun _ => HF.out, fun _ => rfl⟩⟩, below_wide HBQ.out (lat_below _ _)⟩
          · have f1 : (x == y) = false := beq_eq_false_iff_ne.2 g
            have f2 : decide (x = y) = false := decide_eq_false g
            have HN2 := hide (show x ∉ l.take (q + 1) from by
              rw [List.take_add_one, HY.out]
              simp only [Option.toList_some, List.mem_append, List.mem_singleton, not_or]
              exact ⟨HNQ.out, g⟩)
            clear g
            go_wp2_with fail
            refine wp_region_lat (by kernel_rfl) (by kernel_rfl) ?_
            repeat (first | go_big_quiet_step ((fail)) | quiet_step ((fail)))
            refine wpQuiet_nil ?_
            intro _ hlat
            obtain ⟨wq, rfl⟩ := hlat
            go_wp2_with fail
            go_roundw
            case rel => exact ⟨q + 1, by go_num, HQL.out, HN2.out, below_wide HBQ.out (lat_below _ _)⟩
            case measure => have := HQL.out; simp [intOf]; omega
        · obtain rfl : q = i := by omega
          have e1 : decide (q < q) = false := decide_eq_false (by omega)
          have e1' : decide ((q : Int) < (q : Int)) = false := decide_eq_false (by omega)
          have HN2 := hide (show (l.take (q + 1)).Nodup from by
            rw [List.take_add_one, HX.out]
            exact List.nodup_append.2 ⟨HNO.out, by simp, fun a ha b hb e => by simp at hb; exact hnq (hb ▸ e ▸ ha)⟩)
          clear hnq hbq
          go_wp2_with fail
          go_roundw
          case rel => exact ⟨q + 1, by go_num, HLT.out, HN2.out, HBQ.out⟩
          case measure => have := HLT.out; simp [intOf]; omega
    · obtain rfl : i = l.length := by omega
      have d1 : decide (l.length < l.length) = false := decide_eq_false (by omega)
      have d1' : decide ((l.length : Int) < (l.length : Int)) = false := decide_eq_false (by omega)
      rw [List.take_length] at hno
      have HNO := hide hno
      clear hno hb
      go_wp2_with fail
      go_ret
      exact ⟨⟨false, rfl, ⟨fun e => (by cases e), fun h => absurd HNO.out h⟩⟩, HB.out⟩
set_option maxRecDepth 100000 in
theorem sameInts_any (A1 A2 : Option Addr) (c1 c2 : Nat) (l m : List Int) (w : World) (h1 : Src w A1 l.length c1 1 (l.map encI)) (h2 : Src w A2 m.length c2 1 (m.map encI)) (hl : l.length ≤ maxLen) (hm : m.length ≤ maxLen) : Calls Tryz.prog 10 #[.slice A1 l.length c1, .slice A2 m.length c2] w fun e w' => e = .returned (.bool (decide (l = m))) ∧ Below w.heap.size w w' := by
  have H1 := hide h1
  have H2 := hide h2
  unfold maxLen at hl hm
  clear h1 h2
  by_cases hne : l.length = m.length
  · have g1 : (l.length != m.length) = false := by rw [hne]; simp
    have g1' : ((l.length : Int) != (m.length : Int)) = false := by rw [hne]; simp
    have HNE := hide hne
    have HEQ := hide (fun (h : l.take l.length = m.take l.length) => show decide (l = m) = true from decide_eq_true (by rw [List.take_length, hne, List.take_length] at h; exact h))
    have HNO := hide (fun (i : Nat) (x y : Int) (h1 : l[i]? = some x) (h2 : m[i]? = some y) (h : x ≠ y) => show decide (l = m) = false from decide_eq_false (fun e => by rw [e, h2] at h1; cases h1; exact h rfl))
    clear hne
    generalize decide (l = m) = res at *
    go_enter Tryz.func10, Tryz.ntmps10
    go_wp2_with fail
    go_loopw [5] (fun j wr => ∃ i : Nat, j = .int .i64 i ∧ i ≤ l.length ∧ l.take i = m.take i ∧ Below w.heap.size w wr) (fun j _ => l.length - (intOf j).toNat)
    case atStart => exact ⟨0, rfl, Nat.zero_le _, by simp, Below.refl _ _⟩
    case round =>
      obtain ⟨i, rfl, hi, hno, hb⟩ := hrel
      have HT := hide hno
      have HB := hide hb
      rcases Nat.lt_or_ge i l.length with hlt | hge
      · have d1 : decide (i < l.length) = true := decide_eq_true hlt
        have d1' : decide ((i : Int) < (l.length : Int)) = true := decide_eq_true (by omega)
        have d2 : ((i : Int) < (l.length : Int)) := by omega
        have d3 : ((i : Int) < (m.length : Int)) := by have := HNE.out; omega
        obtain ⟨x, hx⟩ : ∃ x, l[i]? = some x := ⟨_, List.getElem?_eq_getElem hlt⟩
        obtain ⟨y, hy⟩ : ∃ y, m[i]? = some y := ⟨_, List.getElem?_eq_getElem (by have := HNE.out; omega)⟩
        obtain ⟨a, rfl, x0⟩ := src_at (H1.out.below hb) hx
        obtain ⟨a2, rfl, y0⟩ := src_at (H2.out.below hb) hy
        have x1 := lat_cell x0
        have y1 := lat_cell y0
        have HXY := hide (And.intro hx hy)
        have HLT := hide hlt
        clear hno hb hx hy hlt x0 y0
        by_cases g : x = y
        · have HN2 := hide (show l.take (i + 1) = m.take (i + 1) from by rw [List.take_add_one, List.take_add_one, HT.out, HXY.out.1, HXY.out.2, g])
          have f1 : (x != y) = false := by rw [g]; simp
          clear g
          go_wp2_with fail
          refine wp_region_lat (by kernel_rfl) (by kernel_rfl) ?_
          repeat (first | go_big_quiet_step ((fail)) | quiet_step ((fail)))
          refine wpQuiet_nil ?_
          intro _ hlat
          obtain ⟨wq, rfl⟩ := hlat
          go_wp2_with fail
          go_roundw
          case rel => exact ⟨i + 1, by go_num, HLT.out, HN2.out, below_wide HB.out (lat_below _ _)⟩
          case measure => have := HLT.out; simp [intOf]; omega
        · have HF := hide (HNO.out i x y HXY.out.1 HXY.out.2 g)
          have f1 : (x != y) = true := bne_iff_ne.2 g
          clear g
          go_wp2_with fail
          refine wp_region_lat (by kernel_rfl) (by kernel_rfl) ?_
          repeat (first | go_big_quiet_step ((fail)) | quiet_step ((fail)))
          refine wpQuiet_nil ?_
          intro _ hlat
          obtain ⟨wq, rfl⟩ := hlat
          go_wp2_with fail
          go_ret
          exact ⟨by rw [HF.out]; rfl, below_wide HB.out (lat_below _ _)⟩
      · obtain rfl : i = l.length := by omega
        have d1 : decide (l.length < l.length) = false := decide_eq_false (by omega)
        have d1' : decide ((l.length : Int) < (l.length : Int)) = false := decide_eq_false (by omega)
        have HE := hide (HEQ.out hno)
        clear hno hb
        go_wp2_with fail
        go_ret
        exact ⟨by rw [HE.out]; rfl, HB.out⟩
  · have g1 : (l.length != m.length) = true := bne_iff_ne.2 hne
    have g1' : ((l.length : Int) != (m.length : Int)) = true := bne_iff_ne.2 (by omega)
    have HE := hide (show decide (l = m) = false from decide_eq_false (fun e => hne (by rw [e])))
    clear hne
    go_enter Tryz.func10, Tryz.ntmps10
    go_wp2_with fail
    go_ret
    exact ⟨by rw [HE.out]; rfl, Below.refl _ _⟩
set_option maxRecDepth 100000 in
theorem sameBits_any (A1 A2 : Option Addr) (c1 c2 : Nat) (l m : List Bool) (w : World) (h1 : Src w A1 l.length c1 1 (l.map Value.bool)) (h2 : Src w A2 m.length c2 1 (m.map Value.bool)) (hl : l.length ≤ maxLen) (hm : m.length ≤ maxLen) : Calls Tryz.prog 25 #[.slice A1 l.length c1, .slice A2 m.length c2] w fun e w' => e = .returned (.bool (decide (l = m))) ∧ Below w.heap.size w w' := by
  have H1 := hide h1
  have H2 := hide h2
  unfold maxLen at hl hm
  clear h1 h2
  by_cases hne : l.length = m.length
  · have g1 : (l.length != m.length) = false := by rw [hne]; simp
    have g1' : ((l.length : Int) != (m.length : Int)) = false := by rw [hne]; simp
    have HNE := hide hne
    have HEQ := hide (fun (h : l.take l.length = m.take l.length) => show decide (l = m) = true from decide_eq_true (by rw [List.take_length, hne, List.take_length] at h; exact h))
    have HNO := hide (fun (i : Nat) (x y : Bool) (h1 : l[i]? = some x) (h2 : m[i]? = some y) (h : x ≠ y) => show decide (l = m) = false from decide_eq_false (fun e => by rw [e, h2] at h1; cases h1; exact h rfl))
    clear hne
    generalize decide (l = m) = res at *
    go_enter Tryz.func25, Tryz.ntmps25
    go_wp2_with fail
    go_loopw [5] (fun j wr => ∃ i : Nat, j = .int .i64 i ∧ i ≤ l.length ∧ l.take i = m.take i ∧ Below w.heap.size w wr) (fun j _ => l.length - (intOf j).toNat)
    case atStart => exact ⟨0, rfl, Nat.zero_le _, by simp, Below.refl _ _⟩
    case round =>
      obtain ⟨i, rfl, hi, hno, hb⟩ := hrel
      have HT := hide hno
      have HB := hide hb
      rcases Nat.lt_or_ge i l.length with hlt | hge
      · have d1 : decide (i < l.length) = true := decide_eq_true hlt
        have d1' : decide ((i : Int) < (l.length : Int)) = true := decide_eq_true (by omega)
        have d2 : ((i : Int) < (l.length : Int)) := by omega
        have d3 : ((i : Int) < (m.length : Int)) := by have := HNE.out; omega
        obtain ⟨x, hx⟩ : ∃ x, l[i]? = some x := ⟨_, List.getElem?_eq_getElem hlt⟩
        obtain ⟨y, hy⟩ : ∃ y, m[i]? = some y := ⟨_, List.getElem?_eq_getElem (by have := HNE.out; omega)⟩
        obtain ⟨a, rfl, x0⟩ := srcB_at (H1.out.below hb) hx
        obtain ⟨a2, rfl, y0⟩ := srcB_at (H2.out.below hb) hy
        have x1 := lat_cell x0
        have y1 := lat_cell y0
        have HXY := hide (And.intro hx hy)
        have HLT := hide hlt
        clear hno hb hx hy hlt x0 y0
        cases x <;> cases y
        · have HN2 := hide (show l.take (i + 1) = m.take (i + 1) from by rw [List.take_add_one, List.take_add_one, HT.out, HXY.out.1, HXY.out.2])
          go_wp2_with fail
          refine wp_region_lat (by kernel_rfl) (by kernel_rfl) ?_
          repeat (first | go_big_quiet_step ((fail)) | quiet_step ((fail)))
          refine wpQuiet_nil ?_
          intro _ hlat
          obtain ⟨wq, rfl⟩ := hlat
          go_wp2_with fail
          go_roundw
          case rel => exact ⟨i + 1, by go_num, HLT.out, HN2.out, below_wide HB.out (lat_below _ _)⟩
          case measure => have := HLT.out; simp [intOf]; omega
        · have HF := hide (HNO.out i false true HXY.out.1 HXY.out.2 (by decide))
          go_wp2_with fail
          refine wp_region_lat (by kernel_rfl) (by kernel_rfl) ?_
          repeat (first | go_big_quiet_step ((fail)) | quiet_step ((fail)))
          refine wpQuiet_nil ?_
          intro _ hlat
          obtain ⟨wq, rfl⟩ := hlat
          go_wp2_with fail
          go_ret
          exact ⟨by rw [HF.out]; rfl, below_wide HB.out (lat_below _ _)⟩
        · have HF := hide (HNO.out i true false HXY.out.1 HXY.out.2 (by decide))
          go_wp2_with fail
          refine wp_region_lat (by kernel_rfl) (by kernel_rfl) ?_
          repeat (first | go_big_quiet_step ((fail)) | quiet_step ((fail)))
          refine wpQuiet_nil ?_
          intro _ hlat
          obtain ⟨wq, rfl⟩ := hlat
          go_wp2_with fail
          go_ret
          exact ⟨by rw [HF.out]; rfl, below_wide HB.out (lat_below _ _)⟩
        · have HN2 := hide (show l.take (i + 1) = m.take (i + 1) from by rw [List.take_add_one, List.take_add_one, HT.out, HXY.out.1, HXY.out.2])
          go_wp2_with fail
          refine wp_region_lat (by kernel_rfl) (by kernel_rfl) ?_
          repeat (first | go_big_quiet_step ((fail)) | quiet_step ((fail)))
          refine wpQuiet_nil ?_
          intro _ hlat
          obtain ⟨wq, rfl⟩ := hlat
          go_wp2_with fail
          go_roundw
          case rel => exact ⟨i + 1, by go_num, HLT.out, HN2.out, below_wide HB.out (lat_below _ _)⟩
          case measure => have := HLT.out; simp [intOf]; omega
      · obtain rfl : i = l.length := by omega
        have d1 : decide (l.length < l.length) = false := decide_eq_false (by omega)
        have d1' : decide ((l.length : Int) < (l.length : Int)) = false := decide_eq_false (by omega)
        have HE := hide (HEQ.out hno)
        clear hno hb
        go_wp2_with fail
        go_ret
        exact ⟨by rw [HE.out]; rfl, HB.out⟩
  · have g1 : (l.length != m.length) = true := bne_iff_ne.2 hne
    have g1' : ((l.length : Int) != (m.length : Int)) = true := bne_iff_ne.2 (by omega)
    have HE := hide (show decide (l = m) = false from decide_eq_false (fun e => hne (by rw [e])))
    clear hne
    go_enter Tryz.func25, Tryz.ntmps25
    go_wp2_with fail
    go_ret
    exact ⟨by rw [HE.out]; rfl, Below.refl _ _⟩
end Go.Proofs.YtgfjdkkfgclhjaaGreat.Bd
/- gives, walked: is an answer the one of this function? -/
namespace Go.Proofs.YtgfjdkkfgclhjaaGreat.Bd
open Go.RowKit Go.Proofs.YtgfjdkkfgclhjaaGreat Go.Proofs.YtgfjdkkfgclhjaaGreat.Lx Go.Maps

theorem Ar.kept {w w' : World} {k : Blk} {s : St} {row : Option Nat} (h : Ar w k s) (hg : w.grownBy w' row) (hne : ∀ b, row = some b → ¬ fp k b) : Ar w' k s := by
  obtain ⟨fb, ft, H, I⟩ := h
  exact ⟨fb, ft, H.kept hg hne, I⟩
section
variable {D : Nat → Array Value → TypeId → Prop} {B : Nat} {w w' w2 : World} {pp : Nat} {k k' : Blk} {s s' : St} {n ms : Nat} {ns : List Nat} {Vn V : Value} {ts : List Tb} {vs : List Value} {Vt : Value} {Hs L : List Tb} {Vh : Value}
theorem own_set {cs : Array Value} {t : TypeId} {base size m : Nat} {v : Value} {xs : List Value} (hp : w.heap[pp]? = some (.cells cs 37 (0, 0))) (ho : w.ownsRow base t size v m xs) (ht : t ≠ 37) (j : Nat) (u : Value) : (w.setCell ⟨pp, j, none⟩ u).ownsRow base t size v m xs :=
  own_kept ho grown_set (fun g e => by cases e; exact own_ne_row ho hp ht)
theorem bools_set {cs : Array Value} (hp : w.heap[pp]? = some (.cells cs 37 (0, 0))) (j : Nat) (u : Value) : Bools w (w.setCell ⟨pp, j, none⟩ u) :=
  Bools.grown grown_set (fun b hb => by cases hb; exact ⟨cs, _, hp, by decide⟩)
theorem ar_set {cs : Array Value} (hp : w.heap[pp]? = some (.cells cs 37 (0, 0))) (hA : Ar w k s) (j : Nat) (u : Value) : Ar (w.setCell ⟨pp, j, none⟩ u) k s :=
  hA.kept grown_set (fun b hb => by cases hb; exact fp_type hA hp (by decide) (by decide))
/-- Inner was asked: all stands, the old texts too -/
theorem PlM.inn (h : PlM D B w pp k s n ms ns Vn ts vs Vt Hs Vh) (d : HdS B w w' Vh Hs V L) : PlM D B w' pp k s n ms ns Vn ts vs Vt Hs Vh :=
  ⟨heap_grown h.h d.fr (own_ne_row h.held h.h (by decide)), own_kept h.nodes d.fr (fun g e => own_types h.held h.nodes (by decide) g e), h.tabs.held h.held d.fr, d.old, h.ar.kept d.fr (fp_own h.ar h.held (by decide) (by decide)), h.lo, h.fpl, fun g cs t dd => ⟨heap_grown (h.ps g cs t dd).1 d.fr (own_ne_row h.held (h.ps g cs t dd).1 (Ne.symm (h.ps g cs t dd).2.1.2.2.2.2)), (h.ps g cs t dd).2⟩⟩
theorem PlM.put5 (h : PlM D B w' pp k s n ms ns Vn ts vs Vt Hs Vh) (ho : w'.ownsRow B 9 1 V L.length (encT L)) : PlM D B (w'.setCell ⟨pp, 5, none⟩ V) pp k s n ms ns Vn ts vs Vt L V :=
  ⟨heap_set h.h, own_set h.h h.nodes (by decide) _ _, ⟨own_set h.h h.tabs.own (by decide) _ _, h.tabs.tv.to (bools_set h.h _ _)⟩, own_set h.h ho (by decide) _ _, ar_set h.h h.ar _ _, h.lo, h.fpl, fun g cs t d => ⟨heap_far (h.ps g cs t d).1 (heap_ne (h.ps g cs t d).1 h.h (h.ps g cs t d).2.1.2.2.1), (h.ps g cs t d).2⟩⟩
theorem PlM.put3 {r : Nat} (h : PlM D B w pp k s n ms ns Vn ts vs Vt Hs Vh) (hg : w.grownBy w2 Vn.ownBlock) (ho : IRow B w2 V (ns ++ [r])) (hk : V.ownBlock = Vn.ownBlock ∨ V.ownBlock = some w.heap.size) : PlM D B (w2.setCell ⟨pp, 3, none⟩ V) pp k s n ms (ns ++ [r]) V ts vs Vt Hs Vh := by
  have hp := heap_grown h.h hg (own_ne_row h.nodes h.h (by decide))
  have ht := own_kept h.tabs.own hg (fun g e => own_types h.nodes h.tabs.own (by decide) g e)
  have hh := own_kept h.held hg (fun g e => own_types h.nodes h.held (by decide) g e)
  have ha := h.ar.kept hg (fp_own h.ar h.nodes (by decide) (by decide))
  exact ⟨heap_set hp, own_set hp ho (by decide) _ _, ⟨own_set hp ht (by decide) _ _, (h.tabs.tv.to (Bools.own h.nodes (by decide) hg)).to (bools_set hp _ _)⟩, own_set hp hh (by decide) _ _, ar_set hp ha _ _, h.lo, h.fpl, fun g cs t d => by
    obtain ⟨a, b, c⟩ := h.ps g cs t d
    have a2 := heap_grown a hg c
    refine ⟨heap_far a2 (heap_ne a2 hp b.2.2.1), b, ?_⟩
    rcases hk with e | e
    · rw [e]; exact c
    · rw [e]
      intro e2
      have := lt_heap a
      injection e2 with e2
      omega⟩
theorem PlM.put4 {t : Tb} {v : Value} (h : PlM D B w pp k s n ms ns Vn ts vs Vt Hs Vh) (hg : w.grownBy w2 Vt.ownBlock) (ho : w2.ownsRow B 32 1 V (ts ++ [t]).length (vs ++ [v])) (hv : TbV w v t) : PlM D B (w2.setCell ⟨pp, 4, none⟩ V) pp k s n ms ns Vn (ts ++ [t]) (vs ++ [v]) V Hs Vh := by
  have hp := heap_grown h.h hg (own_ne_row h.tabs.own h.h (by decide))
  have hn := own_kept h.nodes hg (fun g e => own_types h.tabs.own h.nodes (by decide) g e)
  have hh := own_kept h.held hg (fun g e => own_types h.tabs.own h.held (by decide) g e)
  have ha := h.ar.kept hg (fp_own h.ar h.tabs.own (by decide) (by decide))
  have hb := (Bools.own h.tabs.own (by decide) hg).trans (bools_set hp 4 V)
  exact ⟨heap_set hp, own_set hp hn (by decide) _ _, ⟨own_set hp ho (by decide) _ _, (h.tabs.tv.to hb).snoc (hv.to hb)⟩, own_set hp hh (by decide) _ _, ar_set hp ha _ _, h.lo, h.fpl, fun g cs t d => by
    obtain ⟨a, b, c⟩ := h.ps g cs t d
    have a2 := heap_grown a hg (own_ne_row h.tabs.own a (Ne.symm b.2.2.2.1))
    exact ⟨heap_far a2 (heap_ne a2 hp b.2.2.1), b, c⟩⟩
end
set_option maxRecDepth 100000 in
theorem gives_no (pp : Nat) (V : Value) (w : World) : Calls Tryz.prog 29 #[.pointer (some ⟨pp, 0, none⟩), .int .i64 0, .int .i64 1, V, .int .i64 1] w fun e w' => e = .returned (.bool true) ∧ w = w' := by
  go_enter Tryz.func29, Tryz.ntmps29
  go_wp2_with fail
  go_ret
  exact ⟨rfl, rfl⟩
/-- the play's block -/
def PlB (pp : Nat) (C : Array Value) (z : World) : Prop := z.heap[pp]? = some (.cells C 37 (0, 0))
section
variable {D : Nat → Array Value → TypeId → Prop} {B : Nat} {w : World} {pp : Nat} {k : Blk} {s : St} {n ms : Nat} {ns : List Nat} {Vn : Value} {ts : List Tb} {vs : List Value} {Vt : Value} {Hs : List Tb} {Vh : Value}
set_option maxHeartbeats 4000000 in
set_option maxRecDepth 100000 in
/-- there is no room -/
theorem gives_full (h : PlM D B w pp k s n ms ns Vn ts vs Vt Hs Vh) (gt : Nat) (t : Tb) (ht : BRow w gt t) (hn : n ≤ 6) (hl : t.length = 2 ^ n) (hh : Hs.length ≤ 100000000) (hu : s.hn = Hs.length) (hful : ms < (inner n t Hs).length) (hms : ms ≤ 4194304) :
    Calls Tryz.prog 29 #[.pointer (some ⟨pp, 0, none⟩), .int .i64 0, .int .i64 3, .slice (some ⟨gt, 0, none⟩) t.length t.length, .int .i64 0] w fun e w' => e = .returned (.bool true) ∧ PlM D B w' pp k s n ms ns Vn ts vs Vt Hs Vh ∧ Below B w w' := by
  obtain ⟨A1, c1, A2, c2, A3, c3, rfl, rfl, rfl⟩ := h.open_
  have HP0 := hide (h.below (Below.refl _ _).drew)
  have HT0 := hide (ht.below (Below.refl _ _).drew)
  have HS0 := hide (show PlB pp _ w.drew from HP0.out.h)
  have gx := fun q => cell_heap (j := 1) (pin_in HS0.out q) rfl
  have gy := fun q => cell_heap (j := 5) (pin_in HS0.out q) rfl
  have HB0 := hide (Nat.le_trans h.lo (Nat.le_of_lt h.lt))
  have HL := hide hl
  have HHU := hide hu
  clear h ht hl hu
  go_enter Tryz.func29, Tryz.ntmps29
  go_wp2_with fail
  refine wp_region_tree (PlB pp #[Value.pointer (some ⟨k.p, 0, none⟩), .int .i64 n, .int .i64 ms, .slice A1 ns.length c1, .slice A2 ts.length c2, .slice A3 Hs.length c3]) (fun k => ([] : List Nat).contains k) (.take [0, 1, 2, 3, 4, 5, 6, 7, 8] (.step 9 (.take [10] .done))) (by kernel_rfl) (by kernel_rfl) (by kernel_rfl) (by kernel_rfl) (.take (.cons (.zero) (.cons (.succ (.zero)) (.cons (.succ (.succ (.zero))) (.cons (.succ (.succ (.succ (.zero)))) (.cons (.succ (.succ (.succ (.succ (.zero))))) (.cons (.succ (.succ (.succ (.succ (.succ (.zero)))))) (.cons (.succ (.succ (.succ (.succ (.succ (.succ (.zero))))))) (.cons (.succ (.succ (.succ (.succ (.succ (.succ (.succ (.zero)))))))) (.cons (.succ (.succ (.succ (.succ (.succ (.succ (.succ (.succ (.zero))))))))) .nil))))))))) (.step (.succ (.succ (.succ (.succ (.succ (.succ (.succ (.succ (.succ (.zero)))))))))) rfl (.take (.cons (.succ (.succ (.succ (.succ (.succ (.succ (.succ (.succ (.succ (.succ (.zero))))))))))) .nil) .done))) ?hQ ?hS ?_
  case hQ => exact fun _ _ _ _ _ h => h
  case hS => exact HS0.out
  refine wpT_take ?_
  repeat (first | go_big_quiet_step ((fail)) | quiet_step ((fail)))
  refine wpQuiet_nil ?_
  have HBD := hide (show Below B w w.drew from (Below.refl B w).drew)
  generalize w.drew = x0 at *
  clear gx gy
  refine wpT_step rfl ?_
  intro K1 hK1
  go_wp2_with fail
  with_reducible refine (Inner_any n t gt B A3 c3 Hs x0 hn HT0.out HL.out HP0.out.held hh (Nat.le_trans HP0.out.lo (Nat.le_of_lt HP0.out.lt))).mono ?_
  rintro e w1 ⟨V, rfl, hd⟩
  obtain ⟨A4, c4, rfl⟩ := own_slice hd.own
  have HP1 := hide (HP0.out.inn hd)
  have HB1 := hide (show Below B w w1 from HBD.out.grown hd.fr (Nat.le_trans HP0.out.lo (Nat.le_of_lt HP0.out.lt)) (fun g e => (HP0.out.held.lt g e).1))
  refine hK1.out _ _ (fun _ => pin_mem HP1.out.h) ?_
  clear hK1 hd HP0 HT0 HBD
  refine wpT_take ?_
  repeat (first | go_big_quiet_step ((fail)) | quiet_step ((fail)))
  refine wpQuiet_nil ?_
  refine wpT_done ?_
  have d1 : decide (ms < (inner n t Hs).length) = true := decide_eq_true hful
  have d1' : decide ((ms : Int) < ((inner n t Hs).length : Int)) = true := decide_eq_true (by omega)
  have p2 := HP1.out.cell (j := 2) rfl
  have q0 := lat_cell (HP1.out.cell (j := 0) rfl)
  have q5 := lat_cell (HP1.out.cell (j := 5) rfl)
  have HUS := hide (fun q => Used_any k s (lat w1 q) (HP1.out.ar.below (lat_below w1 q)))
  generalize (inner n t Hs).length = il at *
  have hz : ((s.hn : Int) == (Hs.length : Int)) = true := beq_it (by have := HHU.out; omega)
  have hz2 : (s.hn == Hs.length) = true := beq_iff_eq.2 HHU.out
  clear hful
  go_wp2_with fail
  refine wp_region_lat (by kernel_rfl) (by kernel_rfl) ?_
  repeat (first | go_big_quiet_step ((go_at_call 6; exact calls_lat_same (HUS.out _))) | quiet_step ((go_at_call 6; exact calls_lat_same (HUS.out _))))
  refine wpQuiet_nil ?_
  intro _ hlat
  obtain ⟨wq, rfl⟩ := hlat
  go_wp2_with fail
  go_ret
  exact ⟨rfl, HP1.out.below (lat_below _ _), HB1.out.trans ((lat_below w1 wq).mono (Nat.le_trans HP1.out.lo (Nat.le_of_lt HP1.out.lt)))⟩
set_option maxHeartbeats 8000000 in
set_option maxRecDepth 100000 in
/-- there is room: the answer is noted -/
theorem gives_ok (h : PlM D B w pp k s n ms ns Vn ts vs Vt Hs Vh) (gt : Nat) (t : Tb) (ht : BRow w gt t) (hn : n ≤ 6) (hl : t.length = 2 ^ n) (hts : ∀ u ∈ ts, u.length ≤ 64) (hh : Hs.length ≤ 100000000) (hu : s.hn = (inner n t Hs).length) (hok : (inner n t Hs).length ≤ ms) (hms : ms ≤ 4194304) (r : Nat) (hr : r ≤ 2000000000) (hlen : ns.length = ts.length) (hcmp : ∀ (i a : Nat) (u : Tb), ns[i]? = some a → ts[i]? = some u → (a = r ↔ u = t)) (hsm : ns.length ≤ 1000) :
    Calls Tryz.prog 29 #[.pointer (some ⟨pp, 0, none⟩), .int .i64 r, .int .i64 0, .slice (some ⟨gt, 0, none⟩) t.length t.length, .int .i64 0] w fun e w' => e = .returned (.bool true) ∧ (∃ Vn' vs' Vt' Vh', PlM D B w' pp k s n ms (ns ++ [r]) Vn' (ts ++ [t]) vs' Vt' (inner n t Hs) Vh') ∧ Below B w w' := by
  obtain ⟨ii, hi1, iz, is, ib⟩ := info_at infoInt
  obtain ⟨ti, ht1, tz, tsz, tb⟩ := info_at infoTb
  obtain ⟨A1, c1, A2, c2, A3, c3, rfl, rfl, rfl⟩ := h.open_
  have HP0 := hide (h.below (Below.refl _ _).drew)
  have HT0 := hide (ht.below (Below.refl _ _).drew)
  have HS0 := hide (show PlB pp _ w.drew from HP0.out.h)
  have gx := fun q => cell_heap (j := 1) (pin_in HS0.out q) rfl
  have gy := fun q => cell_heap (j := 5) (pin_in HS0.out q) rfl
  have HB0 := hide (Nat.le_trans h.lo (Nat.le_of_lt h.lt))
  have HL := hide hl
  have HTL := hide (show t.length ≤ 64 from by have := pow_le6 hn; omega)
  have HHU := hide hu
  have HTS := hide hts
  have HCM := hide hcmp
  have HLE := hide hlen
  clear h ht hl hu hts hcmp hlen
  go_enter Tryz.func29, Tryz.ntmps29
  go_wp2_with fail
  refine wp_region_tree (PlB pp #[Value.pointer (some ⟨k.p, 0, none⟩), .int .i64 n, .int .i64 ms, .slice A1 ns.length c1, .slice A2 ts.length c2, .slice A3 Hs.length c3]) (fun k => ([] : List Nat).contains k) (.take [0, 1, 2, 3, 4, 5, 6, 7, 8] (.step 9 (.take [10] .done))) (by kernel_rfl) (by kernel_rfl) (by kernel_rfl) (by kernel_rfl) (.take (.cons (.zero) (.cons (.succ (.zero)) (.cons (.succ (.succ (.zero))) (.cons (.succ (.succ (.succ (.zero)))) (.cons (.succ (.succ (.succ (.succ (.zero))))) (.cons (.succ (.succ (.succ (.succ (.succ (.zero)))))) (.cons (.succ (.succ (.succ (.succ (.succ (.succ (.zero))))))) (.cons (.succ (.succ (.succ (.succ (.succ (.succ (.succ (.zero)))))))) (.cons (.succ (.succ (.succ (.succ (.succ (.succ (.succ (.succ (.zero))))))))) .nil))))))))) (.step (.succ (.succ (.succ (.succ (.succ (.succ (.succ (.succ (.succ (.zero)))))))))) rfl (.take (.cons (.succ (.succ (.succ (.succ (.succ (.succ (.succ (.succ (.succ (.succ (.zero))))))))))) .nil) .done))) ?hQ ?hS ?_
  case hQ => exact fun _ _ _ _ _ h => h
  case hS => exact HS0.out
  refine wpT_take ?_
  repeat (first | go_big_quiet_step ((fail)) | quiet_step ((fail)))
  refine wpQuiet_nil ?_
  have HBD := hide (show Below B w w.drew from (Below.refl B w).drew)
  generalize w.drew = x0 at *
  clear gx gy
  refine wpT_step rfl ?_
  intro K1 hK1
  go_wp2_with fail
  with_reducible refine (Inner_any n t gt B A3 c3 Hs x0 hn HT0.out HL.out HP0.out.held hh (Nat.le_trans HP0.out.lo (Nat.le_of_lt HP0.out.lt))).mono ?_
  rintro e w1 ⟨V, rfl, hd⟩
  obtain ⟨A4, c4, rfl⟩ := own_slice hd.own
  have HP1 := hide (HP0.out.inn hd)
  have HB1 := hide (show Below B w w1 from HBD.out.grown hd.fr (Nat.le_trans HP0.out.lo (Nat.le_of_lt HP0.out.lt)) (fun g e => (HP0.out.held.lt g e).1))
  have HT1 := hide (hd.bo gt t HT0.out)
  have HDO := hide hd.own
  refine hK1.out _ _ (fun _ => pin_mem HP1.out.h) ?_
  clear hK1 hd HP0 HT0 HBD
  refine wpT_take ?_
  repeat (first | go_big_quiet_step ((fail)) | quiet_step ((fail)))
  refine wpQuiet_nil ?_
  refine wpT_done ?_
  generalize hLe : inner n t Hs = L at *
  have HLQ := hide hLe
  clear hLe
  have d1 : decide (ms < L.length) = false := decide_eq_false (by omega)
  have d1' : decide ((ms : Int) < (L.length : Int)) = false := decide_eq_false (by omega)
  have p2 := HP1.out.cell (j := 2) rfl
  have p5 := HP1.out.cell (j := 5) rfl
  have f5 := frozen_heap (j := 5) HP1.out.h
  have HP2 := hide (HP1.out.put5 HDO.out)
  have HB2 := hide (HB1.out.setCell (p := ⟨pp, 5, none⟩) HP1.out.lo (.slice A4 L.length c4))
  have HT2 := hide (bools_set HP1.out.h 5 (.slice A4 L.length c4) gt t HT1.out)
  go_wp2_with fail
  clear p2 p5 f5 HP1 HB1 HT1 HDO
  generalize w1.setCell ⟨pp, 5, none⟩ (.slice A4 L.length c4) = w2 at *
  have q0 := lat_cell (HP2.out.cell (j := 0) rfl)
  have q5 := lat_cell (HP2.out.cell (j := 5) rfl)
  have HUS := hide (fun q => Used_any k s (lat w2 q) (HP2.out.ar.below (lat_below w2 q)))
  have hz : ((s.hn : Int) != (L.length : Int)) = false := by rw [HHU.out]; simp
  have hz2 : (s.hn != L.length) = false := by rw [HHU.out]; simp
  have hr0 : decide ((r : Int) < 0) = false := decide_eq_false (by omega)
  refine wp_region_lat (by kernel_rfl) (by kernel_rfl) ?_
  repeat (first | go_big_quiet_step ((go_at_call 6; exact calls_lat_same (HUS.out _))) | quiet_step ((go_at_call 6; exact calls_lat_same (HUS.out _))))
  refine wpQuiet_nil ?_
  intro _ hlat
  obtain ⟨wq, rfl⟩ := hlat
  have HP3 := hide (HP2.out.below (lat_below w2 wq))
  have HB3 := hide (HB2.out.trans ((lat_below w2 wq).mono (Nat.le_trans HP2.out.lo (Nat.le_of_lt HP2.out.lt))))
  have HT3 := hide (HT2.out.below (lat_below w2 wq))
  clear q0 q5 HUS HP2 HB2 HT2
  generalize lat w2 wq = w3 at *
  go_wp2_with fail
  go_loopw [12] (fun j wr => ∃ i : Nat, j = .int .i64 i ∧ i ≤ ns.length ∧ PlM D B wr pp k s n ms ns (.slice A1 ns.length c1) ts vs (.slice A2 ts.length c2) L (.slice A4 L.length c4) ∧ BRow wr gt t ∧ Below B w wr) (fun j _ => ns.length - (intOf j).toNat)
  case atStart => exact ⟨0, rfl, Nat.zero_le _, HP3.out, HT3.out, HB3.out⟩
  case round =>
    clear HP3 HT3 HB3
    obtain ⟨i, rfl, hi, hP, hT, hB⟩ := hrel
    have HP := hide hP
    have HT := hide hT
    have HBR := hide hB
    rcases Nat.lt_or_ge i ns.length with hlt | hge
    · have e1 : decide (i < ns.length) = true := decide_eq_true hlt
      have e1' : decide ((i : Int) < (ns.length : Int)) = true := decide_eq_true (by omega)
      have e2 : ((i : Int) < (ns.length : Int)) := by omega
      have e3 : ((i : Int) < (ts.length : Int)) := by have := HLE.out; omega
      obtain ⟨a, ha⟩ : ∃ a, ns[i]? = some a := ⟨_, List.getElem?_eq_getElem hlt⟩
      obtain ⟨g, u, hu1, hv, hru⟩ := hP.tabs.tv.get (i := i) (by have := HLE.out; omega)
      obtain ⟨ad, rfl, x0⟩ := src_at hP.nodes.src (enc_at ha)
      obtain ⟨ad2, rfl, y0⟩ := srcW_at (src_of_own hP.tabs.own) hv
      have k3 := hP.cell (j := 3) rfl
      have g3 := lat_cell k3
      have g4 := lat_cell (hP.cell (j := 4) rfl)
      have gn := lat_cell x0
      have gt2 := lat_cell y0
      have HX1 := hide (fun q => Text_any u _ _ (lat wr q) (hru.below (lat_below wr q)).src (HTS.out u (List.mem_of_getElem? hu1)))
      have HX2 := hide (fun q => Text_any t _ _ (lat wr q) (hT.below (lat_below wr q)).src HTL.out)
      have hiff := HCM.out i a u ha hu1
      have hqt := txt_beq u t
      have HLT := hide hlt
      clear hP hT hB ha hu1 hv hru x0 y0 hlt
      have hdd : ((a : Int) == (r : Int)) = decide (u = t) := by
        by_cases e : a = r
        · rw [decide_eq_true (hiff.1 e)]; exact beq_it (by omega)
        · rw [decide_eq_false (fun h => e (hiff.2 h))]; exact beq_if (by omega)
      clear hiff
      cases hb : decide (u = t) with
      | true =>
        rw [hb] at hqt hdd
        clear hb
        go_wp2_with fail
        refine wp_region_lat (by kernel_rfl) (by kernel_rfl) ?_
        repeat (first | go_big_quiet_step ((first | (go_at_call 49; with_reducible exact calls_lat (HX1.out _)) | (go_at_call 49; with_reducible exact calls_lat (HX2.out _)))) | quiet_step ((first | (go_at_call 49; with_reducible exact calls_lat (HX1.out _)) | (go_at_call 49; with_reducible exact calls_lat (HX2.out _)))))
        refine wpQuiet_nil ?_
        intro _ hlat
        obtain ⟨wq, rfl⟩ := hlat
        go_wp2_with fail
        go_roundw
        case rel => exact ⟨i + 1, by go_num, HLT.out, HP.out.below (lat_below _ _), HT.out.below (lat_below _ _), HBR.out.trans ((lat_below _ _).mono (Nat.le_trans HP.out.lo (Nat.le_of_lt HP.out.lt)))⟩
        case measure => have := HLT.out; simp [intOf]; omega
      | false =>
        rw [hb] at hqt hdd
        clear hb
        go_wp2_with fail
        refine wp_region_lat (by kernel_rfl) (by kernel_rfl) ?_
        repeat (first | go_big_quiet_step ((first | (go_at_call 49; with_reducible exact calls_lat (HX1.out _)) | (go_at_call 49; with_reducible exact calls_lat (HX2.out _)))) | quiet_step ((first | (go_at_call 49; with_reducible exact calls_lat (HX1.out _)) | (go_at_call 49; with_reducible exact calls_lat (HX2.out _)))))
        refine wpQuiet_nil ?_
        intro _ hlat
        obtain ⟨wq, rfl⟩ := hlat
        go_wp2_with fail
        go_roundw
        case rel => exact ⟨i + 1, by go_num, HLT.out, HP.out.below (lat_below _ _), HT.out.below (lat_below _ _), HBR.out.trans ((lat_below _ _).mono (Nat.le_trans HP.out.lo (Nat.le_of_lt HP.out.lt)))⟩
        case measure => have := HLT.out; simp [intOf]; omega
    · obtain rfl : i = ns.length := by omega
      have e1 : decide (ns.length < ns.length) = false := decide_eq_false (by omega)
      have e1' : decide ((ns.length : Int) < (ns.length : Int)) = false := decide_eq_false (by omega)
      have k3 := hP.cell (j := 3) rfl
      have hbx := bel_one wr (.cells #[.int .i64 r] 3)
      have HPX := hide (hP.below hbx)
      have HTX := hide (hT.below hbx)
      have HBX := hide (HBR.out.trans (hbx.mono (Nat.le_trans hP.lo (Nat.le_of_lt hP.lt))))
      have hlw := Nat.le_trans hP.lo (Nat.le_of_lt hP.lt)
      clear hP hT hB hbx hge HP HT HBR
      go_wp2_with (at_builtin; go_must (refine wpList_append_own_at _ rfl (.tmp 115) (.tmp 117) 30 rfl B 3 ii _ 1 8 Tryz.underlying30 hi1 iz is ib rfl (by decide) _ ns.length ((encL ns).map encI) rfl HPX.out.nodes ⟨wr.heap.size, 0, none⟩ 1 1 [.int .i64 r] rfl rfl (cell_one _ _) ?ones ?c63 ?cby ?cbase ?_))
      case ones => intro u hu; rw [List.mem_singleton.1 hu]; rfl
      case c63 => unfold maxLen; omega
      case cby => omega
      case cbase => simp; omega
      intro v' w4 hown hgr _ hblk
      obtain ⟨A7, c7, rfl⟩ := own_slice hown
      have hir := irow_snoc hown
      have hp4 := heap_grown HPX.out.h hgr (own_ne_row HPX.out.nodes HPX.out.h (by decide))
      have k3' := cell_heap (j := 3) hp4 rfl
      have f3' := frozen_heap (j := 3) hp4
      have HP4 := hide (HPX.out.put3 hgr hir (by
        rw [show (ns ++ [r]).length = ns.length + 1 by simp]
        rcases hblk with e | e
        · exact .inl e
        · exact .inr (by rw [World.size_alloc]; exact e)))
      have HT4 := hide (bools_set hp4 3 (.slice A7 (ns ++ [r]).length c7) gt t (Bools.own HPX.out.nodes (by decide) hgr gt t HTX.out))
      have HB4 := hide ((HBX.out.grown hgr (by simp; omega) (fun b e => (HPX.out.nodes.lt b e).1)).setCell (p := ⟨pp, 3, none⟩) HPX.out.lo (.slice A7 (ns ++ [r]).length c7))
      have hnl : (ns ++ [r]).length = ns.length + 1 := by simp
      rw [hnl] at HP4 HT4 HB4
      clear hown hgr hir hp4 HPX HTX HBX k3 hblk
      go_upto_region 15 with fail
      clear k3' f3'
      generalize w4.setCell ⟨pp, 3, none⟩ (.slice A7 (ns.length + 1) c7) = w5 at *
      have k4 := HP4.out.cell (j := 4) rfl
      have hby := bel_one w5 (.cells #[.slice (some ⟨gt, 0, none⟩) t.length t.length] 32)
      have HPY := hide (HP4.out.below hby)
      have HTY := hide (HT4.out.below hby)
      have hlw5 := Nat.le_trans HP4.out.lo (Nat.le_of_lt HP4.out.lt)
      have HBY := hide (HB4.out.trans (hby.mono hlw5))
      have htl : ts.length ≤ 1000 := by have := HLE.out; omega
      clear hby HP4 HT4 HB4
      go_wp2_with (at_builtin; go_must (refine wpList_append_own_at _ rfl (.tmp 125) (.tmp 127) 34 rfl B 32 ti _ 1 24 Tryz.underlying34 ht1 tz tsz tb rfl (by decide) _ ts.length vs rfl HPY.out.tabs.own ⟨w5.heap.size, 0, none⟩ 1 1 [.slice (some ⟨gt, 0, none⟩) t.length t.length] rfl rfl (cell_one _ _) ?ones ?c63 ?cby ?cbase ?_))
      case ones => intro u hu; rw [List.mem_singleton.1 hu]; rfl
      case c63 => unfold maxLen; omega
      case cby => omega
      case cbase => simp; omega
      intro v' w6 hown hgr _ _
      obtain ⟨A8, c8, rfl⟩ := own_slice hown
      have hp6 := heap_grown HPY.out.h hgr (own_ne_row HPY.out.tabs.own HPY.out.h (by decide))
      have k4' := cell_heap (j := 4) hp6 rfl
      have f4' := frozen_heap (j := 4) hp6
      have HP6 := hide (HPY.out.put4 (t := t) hgr (by rw [List.length_append]; exact hown) ⟨gt, rfl, HTY.out⟩)
      have HB6 := hide ((HBY.out.grown hgr (by simp; omega) (fun b e => (HPY.out.tabs.own.lt b e).1)).setCell (p := ⟨pp, 4, none⟩) HPY.out.lo (.slice A8 (ts.length + 1) c8))
      clear hown hgr hp6 HPY HTY HBY k4
      go_wp2_with fail
      go_ret
      exact ⟨rfl, ⟨_, _, _, _, by rw [HLQ.out]; exact HP6.out⟩, HB6.out⟩
end
end Go.Proofs.YtgfjdkkfgclhjaaGreat.Bd
/- What a play holds: its numbers, its tables and its texts are of the same functions; what becomes of it when a node is answered. No step of a program is in sight. -/
namespace Go.Proofs.YtgfjdkkfgclhjaaGreat.Bd
open Go.RowKit Go.Proofs.YtgfjdkkfgclhjaaGreat Go.Proofs.YtgfjdkkfgclhjaaGreat.Lx Go.Maps

theorem nS_low {n : Nat} (h : n ≤ 6) : nS (lowV n) 0 ≤ n := by
  rcases (by omega : n = 0 ∨ n = 1 ∨ n = 2 ∨ n = 3 ∨ n = 4 ∨ n = 5 ∨ n = 6) with rfl | rfl | rfl | rfl | rfl | rfl | rfl <;> decide
theorem walkR_low {n : Nat} (h : n ≤ 6) : walkR n ≤ 1538 := by
  rcases (by omega : n = 0 ∨ n = 1 ∨ n = 2 ∨ n = 3 ∨ n = 4 ∨ n = 5 ∨ n = 6) with rfl | rfl | rfl | rfl | rfl | rfl | rfl <;> decide
theorem pow_low {n : Nat} (h : n ≤ 6) : 2 ^ (n + 2) ≤ 256 := by
  rcases (by omega : n = 0 ∨ n = 1 ∨ n = 2 ∨ n = 3 ∨ n = 4 ∨ n = 5 ∨ n = 6) with rfl | rfl | rfl | rfl | rfl | rfl | rfl <;> decide
theorem rnOf_snoc (ps : List (Nat × Nat)) (q : Nat × Nat) (v : Nat) : rnOf (ps ++ [q]) v = if v = q.1 then q.2 else rnOf ps v := by
  unfold rnOf
  rw [intoF_snoc]
  show (match (if (v : Int) = (q.1 : Int) then some (q.2 : Int) else intoF ps v) with | some c => c.toNat | none => v) = _
  by_cases h : v = q.1
  · rw [if_pos h, if_pos (by omega)]
    rfl
  · rw [if_neg h, if_neg (by omega)]
    rfl
theorem renE_rn : ∀ (m : Nat) (ps : List (Nat × Nat)), ps.length = m → ∀ ρ : Env, renE ps ρ ρ = fun x => ρ (rnOf ps x)
  | 0, ps, h, ρ => by
    rw [List.eq_nil_of_length_eq_zero h]
    rfl
  | m + 1, ps, h, ρ => by
    rcases List.eq_nil_or_concat ps with rfl | ⟨qs, q, rfl⟩
    · cases h
    · rw [List.concat_eq_append] at h ⊢
      have ih := renE_rn m qs (by simpa using h) ρ
      funext x
      rw [rnOf_snoc]
      unfold renE at ih ⊢
      rw [List.foldl_append, ih]
      show upd (fun x => ρ (rnOf qs x)) q.1 (ρ q.2) x = _
      unfold upd
      split <;> rfl
theorem rnOf_lt {n : Nat} : ∀ (m : Nat) (ps : List (Nat × Nat)), ps.length = m → (∀ p ∈ ps, p.2 < n) → ∀ x, x < n → rnOf ps x < n
  | 0, ps, h, _, x, hx => by
    rw [List.eq_nil_of_length_eq_zero h]
    exact hx
  | m + 1, ps, h, hp, x, hx => by
    rcases List.eq_nil_or_concat ps with rfl | ⟨qs, q, rfl⟩
    · cases h
    · rw [List.concat_eq_append] at h hp ⊢
      rw [rnOf_snoc]
      split
      · exact hp q (by simp)
      · exact rnOf_lt m qs (by simpa using h) (fun p hp' => hp p (List.mem_append_left _ hp')) x hx
theorem pl_up {k : Blk} {s s1 : St} {w w' : World} (L : Live w k s) (U : Up s s1) {k' : Blk} (hA : Ar w' k' s1) : Live w' k' s1 ∧ Ext s s1 := by
  have had := L.ad
  refine ⟨⟨hA, ⟨by rw [U.ms]; exact had.ms, by rw [U.hn]; exact had.hn, by rw [U.gn]; exact had.gn, by rw [U.vs]; exact had.vs⟩, by rw [U.gi]; exact L.g0, by rw [U.gi]; exact L.g1⟩, ⟨U.vs, U.ms, fun x hx => by rw [U.gi]; exact hx, U.nd⟩⟩
theorem pl_give {k : Blk} {s s1 : St} {w w' : World} (L : Live w k s) (U : Up s s1) {k' : Blk} {r : Nat} (hA : Ar w' k' (s1.give r)) (hgn : s.gn + 1 ≤ 900000000) (hB : s.hn + (fresh s1 r).length ≤ s.ms) : Live w' k' (s1.give r) ∧ Ext s (s1.give r) ∧ (s1.give r).gi r = true := by
  have had := L.ad
  refine ⟨⟨hA, ⟨?_, ?_, ?_, ?_⟩, ?_, ?_⟩, ⟨U.vs, U.ms, fun x hx => ?_, U.nd⟩, ?_⟩
  · show s1.ms ≤ _; rw [U.ms]; exact had.ms
  · show s1.hn + (fresh s1 r).length ≤ _; rw [U.hn]; have := had.ms; omega
  · show s1.gn + 1 ≤ _; rw [U.gn]; omega
  · show s1.vs ≤ _; rw [U.vs]; exact had.vs
  · show (decide ((0 : Int) = r) || s1.gi 0) = true; rw [U.gi, L.g0]; simp
  · show (decide ((1 : Int) = r) || s1.gi 1) = true; rw [U.gi, L.g1]; simp
  · show (decide (x = r) || s1.gi x) = true; rw [U.gi, hx]; simp
  · show (decide ((r : Int) = r) || s1.gi r) = true; simp
structure Pl (s : St) (n ms i : Nat) (Fs : List (Env → Bool)) (ns : List Nat) (ts Hs : List Tb) : Prop where
  vs : s.vs = n
  mq : s.ms = ms
  hn : s.hn = Hs.length
  he : HeT s.nd n s.he Hs
  tq : ts = Fs.map (tab n)
  len : ns.length = Fs.length
  nod : ∀ (j a : Nat) (F : Env → Bool), ns[j]? = some a → Fs[j]? = some F → Nod s a (lowV n) F
  two : 2 ≤ ns.length
  sm : ns.length ≤ i + 2
  m : s.m ≤ i * 2000
  gn : s.gn ≤ i + 2
  neg : s.gi (-1) = false
  n6 : n ≤ 6
section
variable {B : Nat} {w w' : World} {k : Blk} {s : St} {n ms i : Nat} {Fs : List (Env → Bool)} {ns : List Nat} {ts Hs : List Tb}
theorem Pl.tlen (h : Pl s n ms i Fs ns ts Hs) : ns.length = ts.length := by rw [h.tq, h.len, List.length_map]
theorem Pl.hs (h : Pl s n ms i Fs ns ts Hs) (L : Live w k s) : Hs.length ≤ 100000000 := by
  have := L.ad.hn
  rw [h.hn] at this
  omega
theorem Pl.ms_le (h : Pl s n ms i Fs ns ts Hs) (L : Live w k s) : ms ≤ 4194304 := by rw [← h.mq]; exact L.ad.ms
theorem Pl.t64 (h : Pl s n ms i Fs ns ts Hs) : ∀ u ∈ ts, u.length ≤ 64 := fun u hu => by
  rw [h.tq] at hu
  obtain ⟨F, _, rfl⟩ := List.mem_map.1 hu
  rw [tab_len]
  exact pow_le6 h.n6
/-- an argument that is a node -/
theorem Pl.arg (h : Pl s n ms i Fs ns ts Hs) {x : Int} (hx : 0 ≤ x) : ∃ (a f : Nat) (F : Env → Bool), ofP ns.length x = (a : Int) ∧ a < ts.length ∧ nodeP ns x = (f : Int) ∧ ts[a]? = some (tab n F) ∧ Nod s f (lowV n) F := by
  have hlt : x.toNat % ns.length < ns.length := Nat.mod_lt _ (by have := h.two; omega)
  obtain ⟨F, hF⟩ : ∃ F, Fs[x.toNat % ns.length]? = some F := ⟨_, List.getElem?_eq_getElem (by have := h.len; omega)⟩
  obtain ⟨f, hf⟩ : ∃ f, ns[x.toNat % ns.length]? = some f := ⟨_, List.getElem?_eq_getElem hlt⟩
  refine ⟨_, f, F, ofP_pos hx, by have := h.tlen; omega, ?_, ?_, h.nod _ _ _ hf hF⟩
  · unfold nodeP
    rw [if_neg (by omega), List.getD_eq_getElem?_getD, hf]
    rfl
  · rw [h.tq, List.getElem?_map, hF]
    rfl
theorem Pl.cmp {r : Nat} {G : Env → Bool} (h : Pl s n ms i Fs ns ts Hs) {s' : St} {w' : World} {k' : Blk} (L' : Live w' k' s') (E : Ext s s') (nr : Nod s' r (lowV n) G) : ∀ (j a : Nat) (u : Tb), ns[j]? = some a → ts[j]? = some u → (a = r ↔ u = tab n G) := by
  intro j a u ha hu
  rw [h.tq, List.getElem?_map] at hu
  obtain ⟨F, hF, rfl⟩ := Option.map_eq_some_iff.1 hu
  have na := (h.nod j a F ha hF).ext E
  constructor
  · rintro rfl
    rw [na.fn nr]
  · intro e
    obtain ⟨_, t1, d1⟩ := na
    obtain ⟨_, t2, d2⟩ := nr
    have := tab_inj d1.hn d2.hn e
    subst this
    exact d1.eq L'.ar.wf.once d2
theorem Pl.answer {e : Ending} {G : Env → Bool} (h : Pl s n ms i Fs ns ts Hs) (L : Live w k s) (hi : i ≤ 60) (ho : ApiOut k s w 1538 (OkSem (lowV n) G) e w') :
    (∃ k' s', e = .returned (.tuple #[.int .i64 0, .int .i64 3]) ∧ Live w' k' s' ∧ Turn k k' w w' ∧ Pl s' n ms (i + 1) Fs ns ts Hs ∧ ms < (inner n (tab n G) Hs).length) ∨
    (∃ k' s' r, e = .returned (.tuple #[.int .i64 (r : Nat), .int .i64 0]) ∧ Live w' k' s' ∧ Turn k k' w w' ∧ Pl s' n ms (i + 1) (Fs ++ [G]) (ns ++ [r]) (ts ++ [tab n G]) (inner n (tab n G) Hs) ∧ (inner n (tab n G) Hs).length ≤ ms ∧ r ≤ 2000000000 ∧ ∀ (j a : Nat) (u : Tb), ns[j]? = some a → ts[j]? = some u → (a = r ↔ u = tab n G)) := by
  obtain ⟨k', s1, r, U, hm, ⟨t, d⟩, T, hw, hr, hh⟩ := ho
  have hn := h.n6
  have hm' := h.m
  have H1 : HeT s1.nd n s1.he Hs := by
    obtain ⟨ex, hex⟩ := U.nd
    rw [hex, U.he]
    exact h.he.grow ex
  have il := inner_len hw H1 d (by omega)
  have hgv := H1.give hw d (by omega)
  change (inner n (tab n G) Hs).length = Hs.length + (fresh s1 r).length at il
  have hms := h.mq
  have hhn := h.hn
  rcases hh with ⟨h1, rfl, hA⟩ | ⟨h1, rfl, hA⟩
  · obtain ⟨L', E⟩ := pl_up L U hA
    refine .inl ⟨k', s1, rfl, L', T, ⟨U.vs.trans h.vs, U.ms.trans h.mq, U.hn.trans h.hn, H1, h.tq, h.len, fun j a F ha hF => (h.nod j a F ha hF).ext E, h.two, by have := h.sm; omega, by omega, by rw [U.gn]; have := h.gn; omega, by rw [U.gi]; exact h.neg, hn⟩, by omega⟩
  · obtain ⟨L', E, hg⟩ := pl_give L U hA (by have := h.gn; omega) h1
    have nr : Nod (s1.give r) r (lowV n) G := ⟨hg, t, d⟩
    have hnm : r < s1.m + 2 := by
      have := hA.nm
      exact Nat.lt_of_lt_of_le hr this
    refine .inr ⟨k', s1.give r, r, rfl, L', T, ⟨U.vs.trans h.vs, U.ms.trans h.mq, ?_, ?_, ?_, ?_, ?_, ?_, ?_, ?_, ?_, ?_, hn⟩, by omega, by omega, h.cmp L' E nr⟩
    · show s1.hn + (fresh s1 r).length = _
      rw [U.hn, il]
      omega
    · exact hgv
    · rw [h.tq, List.map_append]
      rfl
    · rw [List.length_append, List.length_append, h.len]
      rfl
    · intro j a F ha hF
      rcases Nat.lt_or_ge j ns.length with hj | hj
      · rw [List.getElem?_append_left hj] at ha
        rw [List.getElem?_append_left (by have := h.len; omega)] at hF
        exact (h.nod j a F ha hF).ext E
      · rw [List.getElem?_append_right hj] at ha
        rw [List.getElem?_append_right (by have := h.len; omega)] at hF
        have hl := h.len
        rcases Nat.eq_or_lt_of_le hj with e | e
        · subst e
          rw [← hl] at hF
          simp only [Nat.sub_self, List.getElem?_cons_zero, Option.some.injEq] at ha hF
          subst ha hF
          exact nr
        · rw [List.getElem?_eq_none (by simp; omega)] at ha
          cases ha
    · rw [List.length_append]
      have := h.two
      omega
    · rw [List.length_append]
      have := h.sm
      simp
      omega
    · show s1.m ≤ _
      omega
    · show s1.gn + 1 ≤ _
      rw [U.gn]
      have := h.gn
      omega
    · show (decide ((-1 : Int) = (r : Int)) || s1.gi (-1)) = false
      rw [U.gi, h.neg, decide_eq_false (by omega)]
      rfl
theorem Pl.skip (h : Pl s n ms i Fs ns ts Hs) : Pl s n ms (i + 1) Fs ns ts Hs :=
  ⟨h.vs, h.mq, h.hn, h.he, h.tq, h.len, h.nod, h.two, Nat.le_succ_of_le h.sm, Nat.le_trans h.m (Nat.mul_le_mul_right _ (Nat.le_succ i)), Nat.le_succ_of_le h.gn, h.neg, h.n6⟩
end
theorem Pl.start {w : World} {k : Blk} {n ms : Nat} (L : Live w k (St.new n ms)) (hn : n ≤ 6) : Pl (St.new n ms) n ms 0 [fun _ => false, fun _ => true] [0, 1] [allR n false, allR n true] [] := by
  refine ⟨rfl, rfl, rfl, HeT.none _ _, ?_, rfl, ?_, Nat.le_refl _, Nat.le_refl _, Nat.zero_le _, Nat.le_refl _, rfl, hn⟩
  · rw [all_tab, all_tab]
    rfl
  · intro j a F ha hF
    rcases j with _ | _ | j
    · simp at ha hF
      subst ha hF
      exact L.no _
    · simp at ha hF
      subst ha hF
      exact L.yes _
    · simp at ha
end Go.Proofs.YtgfjdkkfgclhjaaGreat.Bd
