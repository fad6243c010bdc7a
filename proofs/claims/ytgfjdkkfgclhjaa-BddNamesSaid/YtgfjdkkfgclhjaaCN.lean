/- most; what a nil arena answers; Count of too many. -/
import Derived.Test.YtgfjdkkfgclhjaaCM
namespace Go.Proofs.Ytgfjdkkfgclhjaa.Bd
open Go.RowKit Go.Proofs.Ytgfjdkkfgclhjaa Go.Proofs.Ytgfjdkkfgclhjaa.Lx Go.Maps

def MostOut (n : Nat) (w : World) (e : Ending) (w' : World) : Prop := ∃ v, e = .returned v ∧ w'.ownsRow w.heap.size 3 1 v n ((encL (List.range n)).map encI) ∧ Below w.heap.size w w'
theorem range_row (i : Nat) : (encL (List.range i)).map encI ++ [.int .i64 i] = (encL (List.range (i + 1))).map encI := by
  unfold encL
  rw [List.range_succ]
  simp [encI]
set_option maxHeartbeats 1000000 in
set_option maxRecDepth 100000 in
theorem most_any (n : Nat) (w : World) (hn : n ≤ 1000000) : Calls Try.prog 12 #[.int .i64 n] w (MostOut n w) := by
  obtain ⟨i1, hi1, iz1, is1, ib1⟩ := info_at infoT
  go_enter Try.func12, Try.ntmps12
  go_wp2_with fail
  go_loopw [3, 4] (fun v j wr => ∃ i : Nat, j = .int .i64 i ∧ i ≤ n ∧ wr.ownsRow w.heap.size 3 1 v i ((encL (List.range i)).map encI) ∧ Below w.heap.size w wr) (fun _ j _ => n - (intOf j).toNat)
  case atStart => exact ⟨0, rfl, Nat.zero_le _, ⟨rfl, .inl ⟨rfl, rfl⟩⟩, Below.refl _ w⟩
  case round =>
    obtain ⟨i, rfl, hi, hrow, hB⟩ := hrel
    rcases Nat.lt_or_ge i n with hlt | hge
    · have d1 : decide (i < n) = true := by simpa using hlt
      have d1' : decide ((i : Int) < n) = true := by simp; omega
      obtain ⟨A, C, rfl⟩ := own_slice hrow
      have HR := hide (hrow.alloc (Obj.cells #[.int .i64 i] 3))
      have HB := hide (hB.alloc hB.size (Obj.cells #[.int .i64 i] 3))
      have HS := hide hB.size
      clear hrow hB
      go_wp2_with (at_builtin; go_must (refine wpList_append_own _ rfl (.tmp 10) (.tmp 12) 37 rfl w.heap.size 3 i1 _ 1 8 Try.underlying37 hi1 iz1 is1 ib1 rfl (by decide) _ i ((encL (List.range i)).map encI) rfl HR.out ⟨wr.heap.size, 0, none⟩ 1 1 [.int .i64 i] rfl rfl ?cells ?ones ?c63 ?cby ?cbase ?_))
      case cells =>
        intro j u hj
        match j, hj with
        | 0, hj => simp at hj; subst hj; simp [Addr.add, go_sem]
        | j + 1, hj => simp at hj
      case ones => simp [Value.oneCell']
      case c63 => unfold maxLen; omega
      case cby => omega
      case cbase => have := HS.out; simp; omega
      intro v' w2 hown' hgrow _
      rw [range_row] at hown'
      obtain ⟨A2, C2, rfl⟩ := own_slice hown'
      have HO := hide hown'
      have HB2 := hide (HB.out.grown hgrow HB.out.size (fun b e => (HR.out.lt b e).1))
      clear hown' hgrow
      go_wp2_with fail
      go_roundw
      case rel => exact ⟨i + 1, by go_num, by omega, HO.out, HB2.out⟩
      case measure => simp [intOf]; omega
    · have e : i = n := by omega
      have d1 : decide (i < n) = false := by simp; omega
      have d1' : decide ((i : Int) < n) = false := by simp; omega
      rw [e] at hrow
      have HX := hide (p := MostOut n w (.returned _) wr) ⟨_, rfl, hrow, hB⟩
      obtain ⟨A, C, rfl⟩ := own_slice hrow
      clear hrow hB e
      go_wp2_with fail
      go_ret
      exact HX.out
theorem rise_range (n : Nat) : Rise (List.range n) := List.pairwise_lt_range

/-! ### nil -/
set_option maxRecDepth 100000 in
theorem Ite_nil (f g h : Int) (w : World) : Calls Try.prog 19 #[.pointer none, .int .i64 f, .int .i64 g, .int .i64 h] w fun e w' => e = .returned (.tuple #[.int .i64 0, .int .i64 2]) ∧ Below w.heap.size w w' := by
  go_enter Try.func19, Try.ntmps19
  go_wp2_with fail
  refine (check_nil _ _).mono ?_
  rintro e w1 ⟨rfl, rfl⟩
  go_wp2_with fail
  go_ret2
  exact ⟨rfl, bel_one _ _⟩
set_option maxRecDepth 100000 in
theorem At_nil (f : Int) (v : Value) (w : World) : Calls Try.prog 14 #[.pointer none, .int .i64 f, v] w fun e w' => e = .returned (.tuple #[.bool false, .int .i64 2]) ∧ Below w.heap.size w w' := by
  go_enter Try.func14, Try.ntmps14
  go_wp2_with fail
  refine (check_nil _ _).mono ?_
  rintro e w1 ⟨rfl, rfl⟩
  go_wp2_with fail
  go_ret2
  exact ⟨rfl, bel_one _ _⟩
set_option maxRecDepth 100000 in
theorem Least_nil (f : Int) (v : Value) (w : World) : Calls Try.prog 13 #[.pointer none, .int .i64 f, v] w fun e w' => e = .returned (.tuple #[.slice none 0 0, .int .i64 2]) ∧ Below w.heap.size w w' := by
  go_enter Try.func13, Try.ntmps13
  go_wp2_with fail
  refine (check_nil _ _).mono ?_
  rintro e w1 ⟨rfl, rfl⟩
  go_wp2_with fail
  go_ret2
  exact ⟨rfl, bel_one _ _⟩
set_option maxRecDepth 100000 in
theorem Rename_nil (f : Int) (u v : Value) (w : World) : Calls Try.prog 16 #[.pointer none, .int .i64 f, u, v] w fun e w' => e = .returned (.tuple #[.int .i64 0, .int .i64 2]) ∧ Below w.heap.size w w' := by
  have y0 : (w.alloc (.cells #[.pointer none] 24)).cell? ⟨w.heap.size, 0, none⟩ = some (.pointer none) := cell_heap (heap_new _ _) rfl
  have HB := hide (below_wide (bel_one w (.cells #[.pointer none] 24)) (bel_one _ (.cells #[.int .i64 f] 3)))
  go_enter Try.func16, Try.ntmps16
  go_wp2_with fail
  refine (check_nil _ _).mono ?_
  rintro e w1 ⟨rfl, rfl⟩
  go_wp2_with fail
  go_ret2
  exact ⟨rfl, HB.out⟩
set_option maxRecDepth 100000 in
theorem Count_nil (f : Int) (A : Option Addr) (n c : Nat) (w : World) : Calls Try.prog 11 #[.pointer none, .int .i64 f, .slice A n c] w fun e w' => e = .returned (.tuple #[.agg #[.int .u64 0, .int .u64 0], .int .i64 2]) ∧ Below w.heap.size w w' := by
  obtain ⟨x0, x1, x2, hb3, hs3⟩ := three_boxes w #[.pointer none] #[.slice A n c] #[.int .u64 0, .int .u64 0] 24 37 34
  have y0 := cell_heap (j := 0) x0 rfl
  have HX := hide (And.intro (heap_old (p := .cells #[.int .i64 f] 3) x2) (below_wide hb3 (bel_one _ (.cells #[.int .i64 f] 3))))
  clear x0 x1 x2 hb3 hs3
  go_enter Try.func11, Try.ntmps11
  go_wp2_with fail
  refine (check_nil _ _).mono ?_
  rintro e w1 ⟨rfl, rfl⟩
  go_wp2_with fail
  generalize (((w.alloc (.cells #[.pointer none] 24)).alloc (.cells #[.slice A n c] 37)).alloc (.cells #[.int .u64 0, .int .u64 0] 34)).alloc (.cells #[.int .i64 f] 3) = w9 at *
  have q0 := cell_heap (j := 0) HX.out.1 rfl
  have q1 := cell_heap (j := 1) HX.out.1 rfl
  exact bodyPost_ret (v := .tuple #[.agg #[.int .u64 0, .int .u64 0], .int .i64 2]) (by simp [results, Try.results11, go_sem, q0, q1]) rfl ⟨rfl, HX.out.2⟩
set_option maxHeartbeats 1000000 in
set_option maxRecDepth 100000 in
/-- more than 127 variables are refused -/
theorem Count_long (S : Nat → Bool) (k : Blk) (s : St) (f t : Nat) (F : Env → Bool) (A : Option Addr) (c : Nat) (ov : List Nat) (w : World) (hA : Ar w k s) (g1 : s.gi f = true) (d : Den S s.nd f t F) (hov : Rise ov) (hall : ∀ x ∈ ov, x < s.vs) (hin : ∀ x, S x = true → x ∈ ov) (hS : Src w A ov.length c 1 ((encL ov).map encI)) (hn : 127 < ov.length) (hn2 : ov.length ≤ 1000000) (hm : s.m + 2 ≤ 1000000000) :
    Calls Try.prog 11 #[.pointer (some ⟨k.p, 0, none⟩), .int .i64 f, .slice A ov.length c] w fun e w' => e = .returned (.tuple #[.agg #[.int .u64 0, .int .u64 0], .int .i64 1]) ∧ Below w.heap.size w w' := by
  have hW := hA.wf
  have hnm := hA.nm
  have hfl := d.lt hW
  obtain ⟨x0, x1, x2, hb3, hs3⟩ := three_boxes w #[.pointer (some ⟨k.p, 0, none⟩)] #[.slice A ov.length c] #[.int .u64 0, .int .u64 0] 24 37 34
  obtain ⟨W, hWd⟩ : ∃ W, W = (((w.alloc (.cells #[.pointer (some ⟨k.p, 0, none⟩)] 24)).alloc (.cells #[.slice A ov.length c] 37)).alloc (.cells #[.int .u64 0, .int .u64 0] 34)) := ⟨_, rfl⟩
  rw [← hWd] at x0 x1 x2 hb3 hs3
  have hbl := below_wide hb3 (bel_one W (.cells #[.int .i64 f] 3))
  have HC := hide (check_any k s [(f : Int)] W.heap.size _ (hA.below hbl) (cells1 W f) (by simp; omega) (by simp))
  rw [show [(f : Int)].length = 1 from rfl, gvn_all (s := s) (l := [(f : Int)]) (by simp [g1]), hs3] at HC
  have HRI := hide (rises_any k s f A c (encL ov) (W.alloc (.cells #[.int .i64 f] 3)) (hA.below hbl) g1 hfl (by rw [encL_len]; exact hS.below hbl) (by rw [encL_len]; omega) hm)
  rw [encL_len] at HRI
  have y0 : (W.alloc (.cells #[.int .i64 f] 3)).cell? ⟨w.heap.size, 0, none⟩ = some (.pointer (some ⟨k.p, 0, none⟩)) := cell_heap (heap_old x0) rfl
  have y1 : (W.alloc (.cells #[.int .i64 f] 3)).cell? ⟨w.heap.size + 1, 0, none⟩ = some (.slice A ov.length c) := cell_heap (heap_old x1) rfl
  have y9 : W.cell? ⟨w.heap.size, 0, none⟩ = some (.pointer (some ⟨k.p, 0, none⟩)) := cell_heap x0 rfl
  have HX := hide (And.intro (heap_old (p := .cells #[.int .i64 f] 3) x1) (heap_old (p := .cells #[.int .i64 f] 3) x2))
  have HRT := hide (fun (e : Ending) (w' : World) => rises_true (w := (W.alloc (.cells #[.int .i64 f] 3))) (w' := w') (e := e) hW d hov hall hin)
  have HBL := hide hbl
  have d127 : decide ((127 : Int) < ov.length) = true := by simp; omega
  clear hA d hov hall hin hS hbl hb3 hs3 x0 x1 x2 g1
  subst hWd
  go_enter Try.func11, Try.ntmps11
  go_wp2_with fail
  refine HC.out.mono ?_
  rintro e w1 ⟨rfl, rfl⟩
  go_wp2_with fail
  refine HRI.out.mono ?_
  intro e w2 hh
  obtain ⟨rfl, hb⟩ := HRT.out e w2 hh
  have z1 := heapB hb HX.out.1
  have z2 := heapB hb HX.out.2
  have HB2 := hide (below_wide HBL.out hb)
  have v1 := cell_heap (j := 0) z1 rfl
  have r0 := cell_heap (j := 0) z2 rfl
  have rf0 := frozen_heap (j := 0) z2
  have r1 := fun (u : Value) => cell_heap (j := 1) (heap_set (j := 0) (u := u) z2) rfl
  have rf1 := fun (u : Value) => frozen_heap (j := 1) (heap_set (j := 0) (u := u) z2)
  have HZ := hide z2
  clear hh hb z1 z2 HX y0 y1 y9 HRT HC HRI
  go_wp2_with fail
  have HBF := hide ((HB2.out.setCell (p := ⟨w.heap.size + 1 + 1, 0, none⟩) (by simp; omega) (.int .u64 0)).setCell (p := ⟨w.heap.size + 1 + 1, 1, none⟩) (by simp; omega) (.int .u64 0))
  have q0h := hide (cell_heap (j := 0) (heap_set (j := 1) (u := .int .u64 0) (heap_set (j := 0) (u := .int .u64 0) HZ.out)) rfl)
  have q1h := hide (cell_heap (j := 1) (heap_set (j := 1) (u := .int .u64 0) (heap_set (j := 0) (u := .int .u64 0) HZ.out)) rfl)
  clear r0 rf0 r1 rf1
  generalize (w2.setCell ⟨w.heap.size + 1 + 1, 0, none⟩ (.int .u64 0)).setCell ⟨w.heap.size + 1 + 1, 1, none⟩ (.int .u64 0) = w9 at *
  have q0 := q0h.out
  have q1 := q1h.out
  exact bodyPost_ret (v := .tuple #[.agg #[.int .u64 0, .int .u64 0], .int .i64 1]) (by simp [results, Try.results11, go_sem, q0, q1]) rfl ⟨rfl, HBF.out⟩
end Go.Proofs.Ytgfjdkkfgclhjaa.Bd
