import Derived.Test.YtihmmmodimionaaDoorPN
import Derived.Test.YtihmmmodimionaaDoorNN
import Derived.Test.YtihmmmodimionaaDoorAG
import Derived.OwnWalk
import Derived.Laws.OwnMore
import Derived.Laws.IdiomStrings
namespace Go.Proofs.YtihmmmodimionaaDoor.Lx
open Go.RowKit

theorem infoU8 : (Tryd.prog.info? 5).map (fun i => (i.zero, i.size, i.bytes)) = some (some (.int .u8 0), 1, 1) := by kernel_rfl
def fillB (k n : Nat) (c : Int) : List Value := List.replicate k (.int .u8 c) ++ List.replicate (n - k) (.int .u8 0)
theorem fill_full (n : Nat) (c : Int) : fillB n n c = List.replicate n (.int .u8 c) := by unfold fillB; simp
/-- string(b) of a row that is filled with one byte -/
theorem conv_fill {w : World} {base g n cap m : Nat} {c : UInt8} (h : w.ownsRow base 5 1 (.slice (some ⟨g, 0, none⟩) n cap) n (List.replicate n (.int .u8 (c.toNat : Int)))) (hm : m ≤ n) (cap' : Nat) :
    (convert 48 9 (.slice (some ⟨g, 0, none⟩) m cap')).run Tryd.prog w = .ok (.string ⟨(List.replicate m c).toArray⟩) w := by
  have := run_convert_bytes_back (P := Tryd.prog) w 48 9 5 ⟨g, 0, none⟩ cap' (List.replicate m c) Tryd.underlying48 Tryd.underlying5 Tryd.underlying9 (fun j hj => by
    rw [List.length_replicate] at hj
    have h1 := h.cellAt j (by omega)
    have e : (⟨g, 0, none⟩ : Addr).add j = ⟨g, j, none⟩ := by simp [Addr.add]; omega
    rw [e, h1, List.getElem?_replicate, if_pos (by omega), List.getElem_replicate])
  rwa [List.length_replicate] at this
theorem T_rep (n : Nat) (c : UInt8) : T ⟨(List.replicate n c).toArray⟩ = List.replicate n c := rfl
theorem conv_any (m : Nat) (c : UInt8) : ∃ b : ByteArray, T b = List.replicate m c ∧ b.size = m ∧ ∀ (W : World) (base g n cap cap' : Nat), W.ownsRow base 5 1 (.slice (some ⟨g, 0, none⟩) n cap) n (List.replicate n (.int .u8 (c.toNat : Int))) → m ≤ n →
    (convert 48 9 (.slice (some ⟨g, 0, none⟩) m cap')).run Tryd.prog W = .ok (.string b) W :=
  ⟨_, T_rep m c, by rw [size_T, T_rep, List.length_replicate], fun _ _ _ _ _ cap' h hm => conv_fill h hm cap'⟩
/-- what stands while the limits are asked -/
structure NS (N M : Nat) (w W : World) (b1 g1 b2 g2 : Nat) (m : Int) : Prop where
  o1 : W.ownsRow b1 5 1 (.slice (some ⟨g1, 0, none⟩) N N) N (List.replicate N (.int .u8 ((97 : UInt8).toNat : Int)))
  o2 : W.ownsRow b2 5 1 (.slice (some ⟨g2, 0, none⟩) M M) M (List.replicate M (.int .u8 ((10 : UInt8).toNat : Int)))
  bel : Below w.heap.size w W
  hm : W.cell? ⟨0, 0, none⟩ = some (.int .i64 m)
theorem NS.next {N M : Nat} {w W W' : World} {b1 g1 b2 g2 : Nat} {m : Int} (h : NS N M w W b1 g1 b2 g2 m) (hb : Below W.heap.size W W') (o : Obj) : NS N M w (W'.alloc o) b1 g1 b2 g2 m :=
  ⟨(own_below h.o1 hb).alloc o, (own_below h.o2 hb).alloc o, (below_wide h.bel hb).alloc (below_wide h.bel hb).size o, by
    rw [(hb.alloc hb.size o).cell (p := ⟨0, 0, none⟩) (lt_of_cell h.hm)]; exact h.hm⟩

theorem names_w1 : tokRes (T ⟨#[97, 98, 10, 32, 127]⟩) = ([], 2, 2, 70) := by kernel_rfl
theorem names_w2 : nameB (T ((⟨#[97, 98, 99, 100, 101, 102, 103, 104, 105, 106, 107, 108, 109, 110, 111, 112, 113, 114, 115, 116, 117, 118, 119, 120, 121, 122, 45, 48, 49, 50, 51, 52, 120]⟩ : ByteArray).extract 0 32)) = true := by kernel_rfl
theorem names_w3 : nameB (T ⟨#[97, 98, 99, 100, 101, 102, 103, 104, 105, 106, 107, 108, 109, 110, 111, 112, 113, 114, 115, 116, 117, 118, 119, 120, 121, 122, 45, 48, 49, 50, 51, 52, 120]⟩) = false := by kernel_rfl

set_option maxRecDepth 100000 in
set_option maxHeartbeats 4000000 in
theorem nlaw_any (w : World) (m : Int) (hm : w.cell? ⟨0, 0, none⟩ = some (.int .i64 m)) :
    Calls Tryd.prog 6 #[] w fun e w' => e = .returned (.bool true) ∧ Below w.heap.size w w' := by
  have HWK := hide (works_any w m hm)
  have HM := hide hm
  have h00 := lt_of_cell hm
  simp only at h00
  clear hm
  obtain ⟨i0, hi, iz, is, ib⟩ := info_parts infoU8
  go_enter Tryd.func6, Tryd.ntmps6
  go_wp2_with fail
  refine HWK.out.mono ?_; rintro e0 w0 ⟨rfl, hb⟩
  have HB0 := hide hb
  clear hb HWK
  go_wp2_with (at_make; (refine wpList_make_full _ rfl _ _ 48 rfl w0.heap.size 5 i0 (.int .u8 0) 1 Tryd.underlying48 hi iz is .i64 .i64 65537 65537 65537 rfl rfl rfl rfl ?b2 ?b3 (Nat.le_refl _) ?_))
  case b2 => rw [ib]; decide
  case b3 => decide
  intro w1 hown hgr
  have e1 : List.replicate 65537 (Value.int .u8 0) = fillB 0 65537 97 := by
    unfold fillB
    rw [List.replicate_zero, List.nil_append, Nat.sub_zero]
  rw [toList_madeCells_one, e1] at hown
  clear e1
  have HOW := hide hown
  have HB1 := hide (HB0.out.grown hgr HB0.out.size (fun k hk => by cases hk))
  have HGE : Hid (w.heap.size ≤ w0.heap.size) := HB0.out.size
  have hlt1 : w0.heap.size < w1.heap.size := (hown.lt w0.heap.size rfl).2
  clear hown hgr HB0
  go_wp2_with fail
  generalize w0.heap.size = g1 at *
  generalize hN : (65537 : Nat) = N at *
  have hN1 : N ≤ 100000 := by omega
  have hN2 : 65536 ≤ N := by omega
  have HN := hide hN
  clear hN
  go_loopw [2] (fun j wr => ∃ k : Nat, k ≤ N ∧ j = .int .i64 k ∧ wr.ownsRow g1 5 1 (.slice (some ⟨g1, 0, none⟩) N N) N (fillB k N 97) ∧ Below w.heap.size w wr) (fun j _ => N - (intOf j).toNat)
  case atStart => exact ⟨0, Nat.zero_le _, rfl, HOW.out, HB1.out⟩
  case round =>
    clear HOW HB1
    obtain ⟨k, hk, rfl, hown, hbel⟩ := hrel
    have HOW := hide hown
    have HB1 := hide hbel
    have fk := hown.frozenAt k
    clear hown hbel
    by_cases hlt : k < N
    · have ck := HOW.out.cellAt k (by omega)
      have ck2 : ∃ u, wr.cell? ⟨g1, k, none⟩ = some u := by
        rw [ck]
        exact ⟨_, List.getElem?_eq_getElem (show k < (fillB k N 97).length by unfold fillB; rw [List.length_append, List.length_replicate, List.length_replicate]; omega)⟩
      obtain ⟨u, ck3⟩ := ck2
      clear ck
      go_wp2_with fail
      go_roundw
      case rel =>
        refine ⟨k + 1, hlt, by go_num, ?_, HB1.out.setCell (p := ⟨g1, k, none⟩) HGE.out _⟩
        have := (HOW.out.stored k (.int .u8 97)).1
        unfold fillB at this ⊢
        rwa [set_fill _ _ _ _ hlt] at this
      case measure => simp [intOf]; omega
    · have hk' : k = N := by omega
      have ho1 : wr.ownsRow g1 5 1 (.slice (some ⟨g1, 0, none⟩) N N) N (List.replicate N (.int .u8 ((97 : UInt8).toNat : Int))) := by
        have := HOW.out
        rw [hk', fill_full] at this
        exact this
      have HO1 := hide ho1
      have hgw : g1 < wr.heap.size := (ho1.lt g1 rfl).2
      clear ho1 HOW hk' fk
      go_wp2_with (at_make; (refine wpList_make_full _ rfl _ _ 48 rfl wr.heap.size 5 i0 (.int .u8 0) 1 Tryd.underlying48 hi iz is .i64 .i64 4096 4096 4096 rfl rfl rfl rfl ?b2 ?b3 (Nat.le_refl _) ?_))
      case b2 => rw [ib]; decide
      case b3 => decide
      intro w3 hown hgr
      have e1 : List.replicate 4096 (Value.int .u8 0) = fillB 0 4096 10 := by
        unfold fillB
        rw [List.replicate_zero, List.nil_append, Nat.sub_zero]
      rw [toList_madeCells_one, e1] at hown
      clear e1
      have HOW := hide hown
      have HB2 := hide (HB1.out.grown hgr HB1.out.size (fun k hk => by cases hk))
      have HO3 := hide (own_kept HO1.out hgr (fun g hg => by cases hg))
      have HGE2 : Hid (w.heap.size ≤ wr.heap.size) := HB1.out.size
      clear hown hgr HB1 HO1 hlt
      go_wp2_with fail
      generalize hM : (4096 : Nat) = M at *
      have hM1 : M ≤ 5000 := by omega
      have HM' := hide hM
      clear hM
      obtain ⟨g2, hg2⟩ : ∃ g, wr.heap.size = g := ⟨_, rfl⟩
      rw [hg2] at hgw
      have HG2 := hide hg2
      clear hg2
      have HOW' : Hid (w3.ownsRow g2 5 1 (.slice (some ⟨g2, 0, none⟩) M M) M (fillB 0 M 10)) := by show _; rw [← HG2.out]; exact HOW.out
      have HGE3 : Hid (w.heap.size ≤ g2) := by show _ ≤ _; rw [← HG2.out]; exact HGE2.out
      clear HOW HGE2
      rw [HG2.out]
      clear HG2
      go_loopw [4] (fun j wr => ∃ k : Nat, k ≤ M ∧ j = .int .i64 k ∧ wr.ownsRow g2 5 1 (.slice (some ⟨g2, 0, none⟩) M M) M (fillB k M 10) ∧ wr.ownsRow g1 5 1 (.slice (some ⟨g1, 0, none⟩) N N) N (List.replicate N (.int .u8 ((97 : UInt8).toNat : Int))) ∧ Below w.heap.size w wr) (fun j _ => M - (intOf j).toNat)
      case atStart => exact ⟨0, Nat.zero_le _, rfl, HOW'.out, HO3.out, HB2.out⟩
      case round =>
        clear HOW' HO3 HB2
        obtain ⟨k, hk, rfl, hown, ho1, hbel⟩ := hrel
        have HOW := hide hown
        have HO1 := hide ho1
        have HB1 := hide hbel
        have fk := hown.frozenAt k
        clear hown hbel ho1
        by_cases hlt : k < M
        · have ck := HOW.out.cellAt k (by omega)
          have ck2 : ∃ u, wr.cell? ⟨g2, k, none⟩ = some u := by
            rw [ck]
            exact ⟨_, List.getElem?_eq_getElem (show k < (fillB k M 10).length by unfold fillB; rw [List.length_append, List.length_replicate, List.length_replicate]; omega)⟩
          obtain ⟨u, ck3⟩ := ck2
          clear ck
          go_wp2_with fail
          go_roundw
          case rel =>
            refine ⟨k + 1, hlt, by go_num, ?_, ownsRow_setCell_other HO1.out (by simp [Value.ownBlock]; omega) _, HB1.out.setCell (p := ⟨g2, k, none⟩) HGE3.out _⟩
            have := (HOW.out.stored k (.int .u8 10)).1
            unfold fillB at this ⊢
            rwa [set_fill _ _ _ _ hlt] at this
          case measure => simp [intOf]; omega
        · have hk' : k = M := by omega
          have ho2 : wr.ownsRow g2 5 1 (.slice (some ⟨g2, 0, none⟩) M M) M (List.replicate M (.int .u8 ((10 : UInt8).toNat : Int))) := by
            have := HOW.out
            rw [hk', fill_full] at this
            exact this
          have N0 : Hid (NS N M w wr g1 g1 g2 g2 m) := ⟨HO1.out, ho2, HB1.out, by rw [HB1.out.cell (p := ⟨0, 0, none⟩) h00]; exact HM.out⟩
          clear ho2 HOW HO1 HB1 hk' fk
          obtain ⟨A1, hA1, sA1, cA1⟩ := conv_any 65536 97
          obtain ⟨A2, hA2, sA2, cA2⟩ := conv_any N 97
          obtain ⟨A3, hA3, sA3, cA3⟩ := conv_any M 10
          have CA1 := hide cA1
          have CA2 := hide cA2
          have CA3 := hide cA3
          obtain ⟨x1, hx1⟩ := names_a 65536 (by omega) (Nat.le_refl _)
          have HL1 : Hid (∀ W : World, W.cell? ⟨0, 0, none⟩ = some (.int .i64 m) → Calls Tryd.prog 8 #[.string A1] W (LinOut 35 37 [x1] (0, 0, 0) W)) := fun W hW => by
            have := lines_any A1 W (by rw [sA1]; decide) m hW
            rw [hA1, hx1] at this
            exact this
          have HL2 : Hid (∀ W : World, W.cell? ⟨0, 0, none⟩ = some (.int .i64 m) → Calls Tryd.prog 8 #[.string A2] W (LinOut 35 37 [] (0, 0, 3) W)) := fun W hW => by
            have := lines_any A2 W (by rw [sA2]; unfold maxLen; omega) m hW
            rw [hA2, names_b N (by have := HN.out; omega)] at this
            exact this
          have HL3 : Hid (∀ W : World, W.cell? ⟨0, 0, none⟩ = some (.int .i64 m) → Calls Tryd.prog 8 #[.string A3] W (LinOut 35 37 (linRes (T A3)).1 (0, 0, 0) W)) := fun W hW => by
            have := lines_any A3 W (by rw [sA3]; unfold maxLen; omega) m hW
            rw [show (linRes (T A3)).2 = (0, 0, 0) by rw [hA3, ← HM'.out]; exact names_c] at this
            exact this
          have HL4 : Hid (∀ W : World, W.cell? ⟨0, 0, none⟩ = some (.int .i64 m) → Calls Tryd.prog 8 #[.string (A3 ++ ⟨#[32]⟩)] W (LinOut 35 37 [] (4097, 1, 3) W)) := fun W hW => by
            have := lines_any (A3 ++ ⟨#[32]⟩) W (by rw [ByteArray.size_append, sA3]; show M + 1 ≤ maxLen; unfold maxLen; omega) m hW
            rw [T_app, hA3, ← HM'.out, show T (⟨#[32]⟩ : ByteArray) = [32] from rfl, (names_e 32).1] at this
            exact this
          have HL5 : Hid (∀ W : World, W.cell? ⟨0, 0, none⟩ = some (.int .i64 m) → Calls Tryd.prog 14 #[.string (A3 ++ ⟨#[120]⟩)] W (TokOut [] (4097, 1, 3) W)) := fun W hW => by
            have := tokens_any (A3 ++ ⟨#[120]⟩) W (by rw [ByteArray.size_append, sA3]; show M + 1 ≤ maxLen; unfold maxLen; omega) m hW
            rw [T_app, hA3, ← HM'.out, show T (⟨#[120]⟩ : ByteArray) = [120] from rfl, (names_e 120).2] at this
            exact this
          have HL6 : Hid (∀ W : World, W.cell? ⟨0, 0, none⟩ = some (.int .i64 m) → Calls Tryd.prog 14 #[.string ⟨#[97, 98, 10, 32, 127]⟩] W (TokOut [] (2, 2, 70) W)) := fun W hW => by
            have := tokens_any ⟨#[97, 98, 10, 32, 127]⟩ W (by decide) m hW
            rw [names_w1] at this
            exact this
          have hA3s : A3.size = M := sA3
          have h3a : A3.size ≤ 100000 := by omega
          clear cA1 cA2 cA3 hA1 hA2 hA3 sA1 sA2 sA3 hx1 hA3s
          have c1 := CA1.out wr g1 g1 N N N N0.out.o1 (by omega)
          go_wp2_with fail
          refine (HL1.out _ N0.out.hm).mono ?_; rintro e1 w11 ⟨v1, a1, hl1, rfl, ho1, _, hb1, _, _⟩
          have hn1 : a1.length = 1 := by have := congrArg List.length hl1; simpa using this
          rw [hn1] at ho1
          obtain ⟨B1, p1, rfl⟩ := own_slice ho1
          have N1 := hide (N0.out.next hb1 (Obj.cells #[.int .i64 0, .int .i64 0] 24))
          clear hl1 ho1 hb1 hn1 c1
          have c1 := CA2.out _ g1 g1 N N N N1.out.o1 (Nat.le_refl _)
          go_wp2_with fail
          refine (HL2.out _ N1.out.hm).mono ?_; rintro e2 w12 ⟨v2, a2, hl2, rfl, ho2, _, hb2, _, _⟩
          have N2 := hide (N1.out.next hb2 (Obj.cells #[.int .i64 0, .int .i64 0] 24))
          have P2 : Hid (PosR (w12.alloc (Obj.cells #[.int .i64 0, .int .i64 0] 24)) w12.heap.size 0 0) := heap_new _ _
          clear hl2 ho2 hb2 c1
          have c1 := CA3.out _ g2 g2 M M M N2.out.o2 (Nat.le_refl _)
          go_wp2_with fail
          refine (HL3.out _ N2.out.hm).mono ?_; rintro e3 w13 ⟨v3, a3, hl3, rfl, ho3, _, hb3, _, _⟩
          have N3 := hide (N2.out.next hb3 (Obj.cells #[.int .i64 0, .int .i64 0] 24))
          have P23 : Hid (PosR (w13.alloc (Obj.cells #[.int .i64 0, .int .i64 0] 24)) w12.heap.size 0 0) := heap_old (heapB hb3 P2.out)
          clear hl3 ho3 hb3 c1 P2 N2
          have c1 := CA3.out _ g2 g2 M M M N3.out.o2 (Nat.le_refl _)
          go_wp2_with fail
          refine (HL4.out _ N3.out.hm).mono ?_; rintro e4 w14 ⟨v4, a4, hl4, rfl, ho4, _, hb4, _, _⟩
          have N4 := hide (N3.out.next hb4 (Obj.cells #[.int .i64 4097, .int .i64 1] 24))
          have P24 : Hid (PosR (w14.alloc (Obj.cells #[.int .i64 4097, .int .i64 1] 24)) w12.heap.size 0 0) := heap_old (heapB hb4 P23.out)
          have P4 : Hid (PosR (w14.alloc (Obj.cells #[.int .i64 4097, .int .i64 1] 24)) w14.heap.size 4097 1) := heap_new _ _
          clear hl4 ho4 hb4 c1 P23 N3
          have c1 := CA3.out _ g2 g2 M M M N4.out.o2 (Nat.le_refl _)
          go_wp2_with fail
          refine (HL5.out _ N4.out.hm).mono ?_; rintro e5 w15 ⟨v5, a5, hl5, rfl, ho5, hb5, _⟩
          have N5 := hide (N4.out.next hb5 (Obj.cells #[.int .i64 4097, .int .i64 1] 24))
          have P25 : Hid (PosR (w15.alloc (Obj.cells #[.int .i64 4097, .int .i64 1] 24)) w12.heap.size 0 0) := heap_old (heapB hb5 P24.out)
          have P45 : Hid (PosR (w15.alloc (Obj.cells #[.int .i64 4097, .int .i64 1] 24)) w14.heap.size 4097 1) := heap_old (heapB hb5 P4.out)
          have P5 : Hid (PosR (w15.alloc (Obj.cells #[.int .i64 4097, .int .i64 1] 24)) w15.heap.size 4097 1) := heap_new _ _
          clear hl5 ho5 hb5 c1 P24 P4 N4
          go_wp2_with fail
          refine (HL6.out _ N5.out.hm).mono ?_; rintro e6 w16 ⟨v6, a6, hl6, rfl, ho6, hb6, _⟩
          have N6 := hide (N5.out.next hb6 (Obj.cells #[.int .i64 2, .int .i64 2] 24))
          have P26 := hide (show PosR (w16.alloc (Obj.cells #[.int .i64 2, .int .i64 2] 24)) w12.heap.size 0 0 from heap_old (heapB hb6 P25.out))
          have P46 := hide (show PosR (w16.alloc (Obj.cells #[.int .i64 2, .int .i64 2] 24)) w14.heap.size 4097 1 from heap_old (heapB hb6 P45.out))
          have P56 := hide (show PosR (w16.alloc (Obj.cells #[.int .i64 2, .int .i64 2] 24)) w15.heap.size 4097 1 from heap_old (heapB hb6 P5.out))
          have P6 := hide (show PosR (w16.alloc (Obj.cells #[.int .i64 2, .int .i64 2] 24)) w16.heap.size 2 2 from heap_new _ _)
          clear hl6 ho6 hb6 P25 P45 P5 N5
          have b0 := cell_heap (j := 0) P26.out rfl
          have b1 := cell_heap (j := 1) P26.out rfl
          have d0 := cell_heap (j := 0) P46.out rfl
          have d1 := cell_heap (j := 1) P46.out rfl
          have f0 := cell_heap (j := 0) P56.out rfl
          have g0 := cell_heap (j := 0) P6.out rfl
          have g1' := cell_heap (j := 1) P6.out rfl
          have HNA := hide (fun W => name_any ((⟨#[97, 98, 99, 100, 101, 102, 103, 104, 105, 106, 107, 108, 109, 110, 111, 112, 113, 114, 115, 116, 117, 118, 119, 120, 121, 122, 45, 48, 49, 50, 51, 52, 120]⟩ : ByteArray).extract 0 32) W (by decide))
          rw [names_w2] at HNA
          have HNB := hide (fun W => name_any ⟨#[97, 98, 99, 100, 101, 102, 103, 104, 105, 106, 107, 108, 109, 110, 111, 112, 113, 114, 115, 116, 117, 118, 119, 120, 121, 122, 45, 48, 49, 50, 51, 52, 120]⟩ W (by decide))
          rw [names_w3] at HNB
          go_wp2_with fail
          refine (HNA.out _).mono ?_; rintro e7 w17 ⟨rfl, hb7⟩
          have HB7 := hide (below_wide N6.out.bel hb7)
          clear hb7 b0 b1 d0 d1 f0 g0 g1'
          go_wp2_with fail
          refine (HNB.out _).mono ?_; rintro e8 w18 ⟨rfl, hb8⟩
          have HB8 := hide (below_wide HB7.out hb8)
          clear hb8
          go_wp2_with fail
          go_ret
          exact ⟨rfl, HB8.out⟩
end Go.Proofs.YtihmmmodimionaaDoor.Lx
