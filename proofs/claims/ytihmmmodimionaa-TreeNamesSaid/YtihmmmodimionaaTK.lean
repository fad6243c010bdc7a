/- TreeNames, walked. -/
import Derived.Test.YtihmmmodimionaaTZ
import Derived.Test.YtihmmmodimionaaTV
namespace Go.Proofs.Ytihmmmodimionaa.Tr
open Go.RowKit Go.Proofs.Ytihmmmodimionaa Go.Proofs.Ytihmmmodimionaa.Lx

theorem parse32 : ∃ F r, parseF t32 = .ok F r := by
  have h := read32
  unfold parseF
  rw [tok32, ← bsOf_len]
  simp only
  rw [if_pos trivial]
  rw [Nat.succ_eq_add_one] at h
  cases e : listF ((bsOf (tokRes t32).1).length + 1) 0 (0, 0) (bsOf (tokRes t32).1) with
  | ok F r => exact ⟨F, r, rfl⟩
  | err a b c => rw [e] at h; cases h
theorem parse33 : parseF t33 = .err 140 1 99 := by
  have h := read33
  unfold parseF
  rw [tok33, ← bsOf_len]
  simp only
  rw [if_pos trivial]
  rw [Nat.succ_eq_add_one] at h
  cases e : listF ((bsOf (tokRes t33).1).length + 1) 0 (0, 0) (bsOf (tokRes t33).1) with
  | ok F r => rw [e] at h; cases h
  | err a b c =>
    rw [e] at h
    obtain ⟨h1, h2, h3⟩ := of_decide_eq_true h
    rw [h1, h2, h3]
theorem w1 : writeF 0 (.cons [] [] false .nil .nil) = none := by kernel_rfl
theorem w2 : writeF 0 (.cons [⟨#[97]⟩] [] false (.cons [⟨#[98]⟩] [] false .nil .nil) .nil) = none := by kernel_rfl
theorem w3 : writeF 0 (.cons [⟨#[97, 34]⟩] [] false .nil .nil) = none := by kernel_rfl
theorem w4 : writeF 0 (.cons [⟨#[97, 32, 98]⟩, ⟨#[]⟩] [] true .nil .nil) = some [34, 97, 32, 98, 34, 32, 34, 34, 32, 123, 10, 125, 10] := by kernel_rfl
theorem rep_len : ∀ (n : Nat) (x : List UInt8), (rep n x).length = n * x.length
  | 0, x => by simp [rep]
  | n + 1, x => by rw [rep, List.length_append, rep_len n x, Nat.succ_mul]
theorem str_nil (w : World) (D : Nat → Prop) : StrV w D (.slice none 0 0) [] := ⟨none, 0, rfl, ⟨rfl, .inl ⟨rfl, rfl, rfl⟩⟩, fun a h => by cases h⟩
theorem pos_nil (w : World) (D : Nat → Prop) : PosV w D (.slice none 0 0) [] := ⟨none, 0, rfl, ⟨rfl, .inl ⟨rfl, rfl, rfl⟩⟩, fun a h => by cases h⟩
theorem row_src {w : World} {g n c size : Nat} {t : TypeId} {xs : List Value} (h : w.heap[g]? = some (.cells xs.toArray t (0, 0))) (hl : xs.length = n * size) : Src w (some ⟨g, 0, none⟩) n c size xs := ⟨hl, .inr ⟨_, rfl, row_at h⟩⟩
abbrev Dl (w : World) : Nat → Prop := fun q => q < w.heap.size
theorem lt_row {w : World} {g : Nat} {o : Obj} (h : w.heap[g]? = some o) : ∀ a, some (⟨g, 0, none⟩ : Addr) = some a → Dl w a.block := fun a e => by cases e; exact lt_heap h
theorem nil_src (w : World) (size : Nat) : Src w none 0 0 size [] := ⟨by simp, .inl ⟨rfl, rfl, rfl⟩⟩
/-- a list of one statement -/
theorem one_print {F : Fo} {xs : List Value} {x : World} {g : Nat} {t : TypeId} (h : x.heap[g]? = some (.cells xs.toArray t (0, 0))) (hf : FoV x (Dl x) F xs) (hl : F.len = 1) (hwt : wtF F ≤ 4398046511104) (hwb : WB F) {m : Int} (hm : x.cell? ⟨0, 0, none⟩ = some (.int .i64 m)) :
    Calls Try.prog 13 #[.slice (some ⟨g, 0, none⟩) 1 1] x fun e w' => e = .returned (printV (writeF 0 F)) ∧ Below x.heap.size x w' := by
  have := print_any F (some ⟨g, 0, none⟩) 1 xs (Dl x) x (row_src h (by rw [hf.len])) hf (fun q hq => hq) (lt_row h) hwt hwb m hm
  rw [hl] at this
  exact this
abbrev StrC (l : List ByteArray) : Obj := .cells (l.map Value.string).toArray 9
abbrev nilV : Value := .slice none 0 0
theorem str_row {x : World} {g : Nat} {l : List ByteArray} (h : x.heap[g]? = some (.cells (l.map Value.string).toArray 9 (0, 0))) : StrV x (Dl x) (.slice (some ⟨g, 0, none⟩) l.length l.length) l :=
  ⟨_, _, rfl, row_src h (by simp), lt_row h⟩
theorem print1 (z : World) (m : Int) (hm : z.cell? ⟨0, 0, none⟩ = some (.int .i64 m)) :
    Calls Try.prog 13 #[.slice (some ⟨z.heap.size, 0, none⟩) 1 1] (z.alloc (NodeC nilV nilV false nilV)) fun e w' => e = .returned (.tuple #[.string ⟨#[]⟩, .int .i64 1]) ∧ Below z.heap.size z w' := by
  refine (one_print (F := .cons [] [] false .nil .nil) (heap_new z _) ⟨nilV, nilV, none, 0, [], [], rfl, str_nil _ _, pos_nil _ _, nil_src _ _, fun a e => (by cases e), rfl, rfl⟩ rfl (by decide) ⟨fun w h => (by cases h), trivial, trivial⟩ (cellB (bel_one z _) hm)).mono ?_
  rintro e w' ⟨rfl, hb⟩
  exact ⟨by rw [w1]; rfl, below_wide (bel_one z _) hb⟩
theorem print3 (z : World) (m : Int) (hm : z.cell? ⟨0, 0, none⟩ = some (.int .i64 m)) :
    Calls Try.prog 13 #[.slice (some ⟨z.heap.size + 1, 0, none⟩) 1 1] ((z.alloc (StrC [⟨#[97, 34]⟩])).alloc (NodeC (.slice (some ⟨z.heap.size, 0, none⟩) 1 1) nilV false nilV)) fun e w' => e = .returned (.tuple #[.string ⟨#[]⟩, .int .i64 1]) ∧ Below z.heap.size z w' := by
  have hb2 := below_wide (bel_one z (StrC [⟨#[97, 34]⟩])) (bel_one (z.alloc (StrC [⟨#[97, 34]⟩])) (NodeC (.slice (some ⟨z.heap.size, 0, none⟩) 1 1) nilV false nilV))
  refine (one_print (F := .cons [⟨#[97, 34]⟩] [] false .nil .nil) (heap_new2 z _ _) ⟨_, nilV, none, 0, [], [], rfl, str_row (l := [⟨#[97, 34]⟩]) (heap_old (heap_new z _)), pos_nil _ _, nil_src _ _, fun a e => (by cases e), rfl, rfl⟩ rfl (by decide) ⟨fun w h => (by rcases List.mem_singleton.1 h with rfl; decide), trivial, trivial⟩ (cellB hb2 hm)).mono ?_
  rintro e w' ⟨rfl, hb⟩
  exact ⟨by rw [w3]; rfl, below_wide hb2 hb⟩
theorem print4 (z : World) (m : Int) (hm : z.cell? ⟨0, 0, none⟩ = some (.int .i64 m)) :
    Calls Try.prog 13 #[.slice (some ⟨z.heap.size + 1, 0, none⟩) 1 1] ((z.alloc (StrC [⟨#[97, 32, 98]⟩, ⟨#[]⟩])).alloc (NodeC (.slice (some ⟨z.heap.size, 0, none⟩) 2 2) nilV true nilV)) fun e w' => e = .returned (.tuple #[.string ⟨#[34, 97, 32, 98, 34, 32, 34, 34, 32, 123, 10, 125, 10]⟩, .int .i64 0]) ∧ Below z.heap.size z w' := by
  have hb2 := below_wide (bel_one z (StrC [⟨#[97, 32, 98]⟩, ⟨#[]⟩])) (bel_one (z.alloc (StrC [⟨#[97, 32, 98]⟩, ⟨#[]⟩])) (NodeC (.slice (some ⟨z.heap.size, 0, none⟩) 2 2) nilV true nilV))
  refine (one_print (F := .cons [⟨#[97, 32, 98]⟩, ⟨#[]⟩] [] true .nil .nil) (heap_new2 z _ _) ⟨_, nilV, none, 0, [], [], rfl, str_row (l := [⟨#[97, 32, 98]⟩, ⟨#[]⟩]) (heap_old (heap_new z _)), pos_nil _ _, nil_src _ _, fun a e => (by cases e), rfl, rfl⟩ rfl (by decide) ⟨fun w h => (by
    rcases List.mem_cons.1 h with rfl | h
    · decide
    · rcases List.mem_singleton.1 h with rfl; decide), trivial, trivial⟩ (cellB hb2 hm)).mono ?_
  rintro e w' ⟨rfl, hb⟩
  exact ⟨by rw [w4]; rfl, below_wide hb2 hb⟩
theorem print2 (z : World) (m : Int) (hm : z.cell? ⟨0, 0, none⟩ = some (.int .i64 m)) :
    Calls Try.prog 13 #[.slice (some ⟨z.heap.size + 3, 0, none⟩) 1 1] ((((z.alloc (StrC [⟨#[97]⟩])).alloc (StrC [⟨#[98]⟩])).alloc (NodeC (.slice (some ⟨z.heap.size + 1, 0, none⟩) 1 1) nilV false nilV)).alloc (NodeC (.slice (some ⟨z.heap.size, 0, none⟩) 1 1) nilV false (.slice (some ⟨z.heap.size + 2, 0, none⟩) 1 1))) fun e w' => e = .returned (.tuple #[.string ⟨#[]⟩, .int .i64 1]) ∧ Below z.heap.size z w' := by
  have e1 : (z.alloc (StrC [⟨#[97]⟩])).heap.size = z.heap.size + 1 := by simp
  have e2 : ((z.alloc (StrC [⟨#[97]⟩])).alloc (StrC [⟨#[98]⟩])).heap.size = z.heap.size + 2 := by simp
  have e3 : (((z.alloc (StrC [⟨#[97]⟩])).alloc (StrC [⟨#[98]⟩])).alloc (NodeC (.slice (some ⟨z.heap.size + 1, 0, none⟩) 1 1) nilV false nilV)).heap.size = z.heap.size + 3 := by simp
  have h1 := heap_new z (StrC [⟨#[97]⟩])
  have h2 := heap_new (z.alloc (StrC [⟨#[97]⟩])) (StrC [⟨#[98]⟩])
  have h3 := heap_new ((z.alloc (StrC [⟨#[97]⟩])).alloc (StrC [⟨#[98]⟩])) (NodeC (.slice (some ⟨z.heap.size + 1, 0, none⟩) 1 1) nilV false nilV)
  have h4 := heap_new (((z.alloc (StrC [⟨#[97]⟩])).alloc (StrC [⟨#[98]⟩])).alloc (NodeC (.slice (some ⟨z.heap.size + 1, 0, none⟩) 1 1) nilV false nilV)) (NodeC (.slice (some ⟨z.heap.size, 0, none⟩) 1 1) nilV false (.slice (some ⟨z.heap.size + 2, 0, none⟩) 1 1))
  rw [e1] at h2
  rw [e2] at h3
  rw [e3] at h4
  have hb2 := below_wide (below_wide (below_wide (bel_one z (StrC [⟨#[97]⟩])) (bel_one _ (StrC [⟨#[98]⟩]))) (bel_one _ (NodeC (.slice (some ⟨z.heap.size + 1, 0, none⟩) 1 1) nilV false nilV))) (bel_one _ (NodeC (.slice (some ⟨z.heap.size, 0, none⟩) 1 1) nilV false (.slice (some ⟨z.heap.size + 2, 0, none⟩) 1 1)))
  have s1 := heap_old (p := (NodeC (.slice (some ⟨z.heap.size, 0, none⟩) 1 1) nilV false (.slice (some ⟨z.heap.size + 2, 0, none⟩) 1 1))) (heap_old (p := (NodeC (.slice (some ⟨z.heap.size + 1, 0, none⟩) 1 1) nilV false nilV)) (heap_old (p := (StrC [⟨#[98]⟩])) h1))
  have s2 := heap_old (p := (NodeC (.slice (some ⟨z.heap.size, 0, none⟩) 1 1) nilV false (.slice (some ⟨z.heap.size + 2, 0, none⟩) 1 1))) (heap_old (p := (NodeC (.slice (some ⟨z.heap.size + 1, 0, none⟩) 1 1) nilV false nilV)) h2)
  have s3 := heap_old (p := (NodeC (.slice (some ⟨z.heap.size, 0, none⟩) 1 1) nilV false (.slice (some ⟨z.heap.size + 2, 0, none⟩) 1 1))) h3
  generalize (((z.alloc (StrC [⟨#[97]⟩])).alloc (StrC [⟨#[98]⟩])).alloc (NodeC (.slice (some ⟨z.heap.size + 1, 0, none⟩) 1 1) nilV false nilV)).alloc (NodeC (.slice (some ⟨z.heap.size, 0, none⟩) 1 1) nilV false (.slice (some ⟨z.heap.size + 2, 0, none⟩) 1 1)) = x at *
  refine (one_print (F := .cons [⟨#[97]⟩] [] false (.cons [⟨#[98]⟩] [] false .nil .nil) .nil) (x := x) (g := z.heap.size + 3) h4 ⟨_, nilV, some ⟨z.heap.size + 2, 0, none⟩, 1, [.slice (some ⟨z.heap.size + 1, 0, none⟩) 1 1, nilV, .bool false, nilV], [], rfl, str_row (l := [⟨#[97]⟩]) s1, pos_nil _ _, row_src s3 rfl, lt_row s3, ⟨_, nilV, none, 0, [], [], rfl, str_row (l := [⟨#[98]⟩]) s2, pos_nil _ _, nil_src _ _, fun a e => (by cases e), rfl, rfl⟩, rfl⟩ rfl (by decide) ⟨fun w h => (by rcases List.mem_singleton.1 h with rfl; decide), ⟨fun w h => (by rcases List.mem_singleton.1 h with rfl; decide), trivial, trivial⟩, trivial⟩ (cellB hb2 hm)).mono ?_
  rintro e w' ⟨rfl, hb⟩
  exact ⟨by rw [w2]; rfl, below_wide hb2 hb⟩
set_option maxHeartbeats 4000000 in
set_option maxRecDepth 100000 in
theorem names_any (w : World) (m : Int) (hm : w.cell? ⟨0, 0, none⟩ = some (.int .i64 m)) :
    Calls Try.prog 4 #[] w fun e w' => e = .returned (.bool true) ∧ Below w.heap.size w w' := by
  have h0 := lt_of_cell hm
  simp only at h0
  have HM := hide hm
  clear hm
  go_enter Try.func4, Try.ntmps4
  go_wp2_with fail
  go_loopw [1, 2, 3] (fun a b j wr => ∃ (k : Nat) (sb tb : ByteArray), a = .string sb ∧ b = .string tb ∧ j = .int .i64 k ∧ k ≤ 32 ∧ sb.size ≤ 3 * k ∧ tb.size ≤ k ∧ T sb = rep k [97, 32, 123] ∧ T tb = rep k [125] ∧ wr = w) (fun _ _ j _ => 32 - (intOf j).toNat)
  case atStart => exact ⟨0, _, _, rfl, rfl, rfl, Nat.zero_le _, Nat.le_refl _, Nat.le_refl _, rfl, rfl, rfl⟩
  case round =>
    obtain ⟨k, sb, tb, rfl, rfl, rfl, hk, hs, ht, hS, hT, hw⟩ := hrel
    subst hw
    have HS := hide hS
    have HT := hide hT
    clear hS hT
    rcases Nat.lt_or_ge k 32 with hlt | hge
    · have d1 : decide (k < 32) = true := decide_eq_true hlt
      have d1' : decide ((k : Int) < 32) = true := decide_eq_true (by omega)
      have z1 : (⟨#[97, 32, 123]⟩ : ByteArray).size = 3 := rfl
      have z2 : (⟨#[125]⟩ : ByteArray).size = 1 := rfl
      have HZ := hide (show (sb ++ ⟨#[97, 32, 123]⟩).size ≤ 3 * (k + 1) ∧ (tb ++ ⟨#[125]⟩).size ≤ k + 1 from by rw [ByteArray.size_append, ByteArray.size_append, z1, z2]; omega)
      have HA := hide (show T (sb ++ ⟨#[97, 32, 123]⟩) = rep (k + 1) [97, 32, 123] ∧ T (tb ++ ⟨#[125]⟩) = rep (k + 1) [125] from by rw [T_append, T_append, HS.out, HT.out]; exact ⟨rfl, rfl⟩)
      clear z1 z2
      go_wp2_with fail
      go_roundw
      case rel => exact ⟨k + 1, _, _, rfl, rfl, by go_num, by omega, HZ.out.1, HZ.out.2, HA.out.1, HA.out.2, by first | rfl | trivial⟩
      case measure => simp [intOf]; omega
    · obtain rfl : k = 32 := by omega
      have z1 : (⟨#[97, 32, 123]⟩ : ByteArray).size = 3 := rfl
      have z2 : (⟨#[125]⟩ : ByteArray).size = 1 := rfl
      obtain ⟨F1, r1, h1⟩ := parse32
      have HP1 := hide (parse_any (sb ++ tb) wr (by rw [ByteArray.size_append]; unfold maxLen; omega) m HM.out)
      have hT1 : T (sb ++ tb) = t32 := by rw [T_append, HS.out, HT.out]; rfl
      have hT2 : T (((sb ++ ⟨#[97, 32, 123]⟩) ++ tb) ++ ⟨#[125]⟩) = t33 := by rw [T_append, T_append, T_append, HS.out, HT.out]; rfl
      rw [hT1, h1] at HP1
      have HT2 := hide hT2
      have hy1 : (sb ++ ⟨#[97, 32, 123]⟩).size ≤ 99 := by rw [ByteArray.size_append, z1]; omega
      have hy2 : ((sb ++ ⟨#[97, 32, 123]⟩) ++ tb).size ≤ 131 := by rw [ByteArray.size_append]; omega
      have HY3 := hide (show (((sb ++ ⟨#[97, 32, 123]⟩) ++ tb) ++ ⟨#[125]⟩).size ≤ maxLen from by rw [ByteArray.size_append, z2]; unfold maxLen; omega)
      clear hT1 hT2 h1 z1 z2 hk hge
      go_wp2_with fail
      refine HP1.out.mono ?_
      rintro e x1 ⟨hb1, v1, xs1, B1, rfl, hl1⟩
      obtain ⟨A1, c1, rfl⟩ := own_slice hl1.own
      have HBa := hide (below_lo hb1 (bel_one x1 (PosC 0 0)) hb1.size)
      have HP2 := hide (parse_any (((sb ++ ⟨#[97, 32, 123]⟩) ++ tb) ++ ⟨#[125]⟩) (x1.alloc (PosC 0 0)) HY3.out m (cell_lo HBa.out (a := ⟨0, 0, none⟩) h0 HM.out))
      rw [HT2.out, parse33] at HP2
      clear hb1 hl1 HP1
      go_wp2_with fail
      refine HP2.out.mono ?_
      rintro e x2 ⟨hb2, _, rfl⟩
      have HBb := hide (below_lo (below_lo HBa.out hb2 HBa.out.size) (bel_one x2 (PosC 1 99)) (Nat.le_trans HBa.out.size hb2.size))
      have HQ := hide (heap_new x2 (PosC 1 99))
      have HR1 := hide (print1 (x2.alloc (PosC 1 99)) m (cell_lo HBb.out (a := ⟨0, 0, none⟩) h0 HM.out))
      have e1 : (x2.alloc (PosC 1 99)).heap.size = x2.heap.size + 1 := by simp
      rw [e1] at HR1
      clear hb2 HP2 e1 hy1 hy2
      go_wp2_with fail
      refine HR1.out.mono ?_
      rintro e p1 ⟨rfl, hb3⟩
      have HBc := hide (below_lo HBb.out (by simpa using hb3) HBb.out.size)
      have HQ1 := hide (show p1.heap[x2.heap.size]? = some (PosC 1 99) from (hb3.block _ (by omega)).trans HQ.out)
      have HR2 := hide (print2 p1 m (cell_lo HBc.out (a := ⟨0, 0, none⟩) h0 HM.out))
      clear hb3 HR1
      go_wp2_with fail
      refine HR2.out.mono ?_
      rintro e p2 ⟨rfl, hb4⟩
      have HBd := hide (below_lo HBc.out hb4 HBc.out.size)
      have HQ2 := hide (heapB hb4 HQ1.out)
      have HR3 := hide (print3 p2 m (cell_lo HBd.out (a := ⟨0, 0, none⟩) h0 HM.out))
      clear hb4 HR2
      go_wp2_with fail
      refine HR3.out.mono ?_
      rintro e p3 ⟨rfl, hb5⟩
      have HBe := hide (below_lo HBd.out hb5 HBd.out.size)
      have HQ3 := hide (heapB hb5 HQ2.out)
      have HR4 := hide (print4 p3 m (cell_lo HBe.out (a := ⟨0, 0, none⟩) h0 HM.out))
      clear hb5 HR3
      go_wp2_with fail
      refine HR4.out.mono ?_
      rintro e p4 ⟨rfl, hb6⟩
      have HBf := hide (below_lo HBe.out hb6 HBe.out.size)
      have hq4 := heapB hb6 HQ3.out
      have q0 := cell_heap (j := 0) hq4 rfl
      have q1 := cell_heap (j := 1) hq4 rfl
      clear hb6 HR4 hq4
      go_wp2_with fail
      refine (find_nil _).mono ?_
      rintro e p5 ⟨rfl, rfl⟩
      go_wp2_with fail
      refine (merge_nil _).mono ?_
      rintro e p6 ⟨rfl, rfl⟩
      go_wp2_with fail
      go_ret
      exact ⟨rfl, HBf.out⟩
end Go.Proofs.Ytihmmmodimionaa.Tr
