/- slices.Concat, lists.Join and the reference's Join. -/
import Derived.Test.YtopckpjhdbjmbaaDoorZR
import Derived.Test.YtopckpjhdbjmbaaDoorShelfB
namespace Go.Proofs.YtopckpjhdbjmbaaDoor.Ld
open Go.RowKit Go.Proofs.YtopckpjhdbjmbaaDoor.Lx

theorem grow_any (n : Nat) (w : World) (hn : n ≤ 2000000000000) :
    Calls Tryd.prog 41 #[.slice none 0 0, .int .i64 n] w fun e w' => ∃ v, e = .returned v ∧ w'.ownsRow w.heap.size 23 1 v 0 [] ∧ Below w.heap.size w w' := by
  obtain ⟨i, hi, hz, hs, hb⟩ := hasI1
  rcases Nat.eq_zero_or_pos n with rfl | h0
  · refine (Any8.slices_Grow_room Tryd.growU none 0 0 0 w (Nat.le_refl _) (by omega) (by omega) (Nat.le_refl _)).mono ?_
    rintro e w' ⟨rfl, rfl⟩
    exact ⟨_, rfl, ⟨rfl, .inl ⟨rfl, rfl⟩⟩, Below.refl _ _⟩
  · refine (Any8.slices_Grow_grow Tryd.growU i _ hi hz (by omega) none 0 0 n [] w (Nat.le_refl _) (by omega) (by rw [hb]; omega) (by omega) (by simp) (fun _ => rfl) (fun a ha => by cases ha)).mono ?_
    rintro e w' ⟨rfl, rfl⟩
    have hc := grownCap_ge w (0 + n) 0 23
    have hm := grownCap_le_maxLen w (0 + n) 0 23 (by unfold maxLen; omega)
    refine ⟨_, rfl, ⟨rfl, .inr ⟨w.heap.size, _, _, rfl, Nat.le_refl _, heap_new w.drew _, Nat.zero_le _, hm, ?_, ?_⟩⟩, ?_⟩
    · simp [Builtin.zeroCells, Value.cells]
      rw [Nat.zero_add] at hc
      show n + (grownCap w n 0 23 - n) = grownCap w n 0 23
      omega
    · simp
    · exact ((Below.refl _ w).drew).alloc (Nat.le_refl _) _

set_option maxHeartbeats 1000000 in
set_option maxRecDepth 100000 in
theorem concat_any (A : Option Addr) (n c : Nat) (za : List Int) (B : Option Addr) (m d : Nat) (zb : List Int) (Q : Nat) (w : World) (hn : n ≤ 500000000000) (hm : m ≤ 500000000000) (ha : Row w A n c za) (hb : Row w B m d zb)
    (h0 : w.cell? ⟨Q, 0, none⟩ = some (.slice A n c)) (h1 : w.cell? ⟨Q, 1, none⟩ = some (.slice B m d)) :
    Calls Tryd.prog 24 #[.slice (some ⟨Q, 0, none⟩) 2 2] w fun e w' => ∃ v, e = .returned v ∧ w'.ownsRow w.heap.size 23 1 v (n + m) ((za ++ zb).map encU) ∧ Below w.heap.size w w' := by
  obtain ⟨i1, hi1, iz1, is1, ib1⟩ := hasI1
  have HG := hide (grow_any (n + m) w (by omega))
  have HA := hide ha
  have HB := hide hb
  have H0 := hide h0
  have H1 := hide h1
  rw [show ((n + m : Nat) : Int) = (n : Int) + (m : Int) by omega] at HG
  clear ha hb
  go_enter Tryd.func24, Tryd.ntmps24
  go_wp2_with fail
  have hn0 : ¬ (n : Int) < 0 := by omega
  have hm0 : ¬ (n : Int) + (m : Int) < 0 := by omega
  go_loop [3, 11] (fun s3 j => (j = .int .i64 0 ∧ s3 = .int .i64 0) ∨ (j = .int .i64 1 ∧ s3 = .int .i64 n) ∨ (j = .int .i64 2 ∧ s3 = .int .i64 ((n : Int) + (m : Int)))) (fun _ j => 2 - (intOf j).toNat)
  case atStart => exact .inl ⟨rfl, rfl⟩
  case round =>
    rcases hrel with ⟨rfl, rfl⟩ | ⟨rfl, rfl⟩ | ⟨rfl, rfl⟩
    · go_wp2_with fail
      go_round
      case rel => exact .inr (.inl ⟨by go_num, by go_num⟩)
      case measure => simp [intOf]
    · go_wp2_with fail
      go_round
      case rel => exact .inr (.inr ⟨by go_num, by go_num⟩)
      case measure => simp [intOf]
    · go_wp2_with fail
      refine HG.out.mono ?_; rintro e w1 ⟨v, rfl, hown, hbl⟩
      have HO := hide hown
      have HBL := hide hbl
      clear hown hbl h0 h1
      go_wp2_with fail
      go_loopw [6, 27] (fun v j wr => Below w.heap.size w wr ∧ ((j = .int .i64 0 ∧ wr.ownsRow w.heap.size 23 1 v 0 []) ∨ (j = .int .i64 1 ∧ wr.ownsRow w.heap.size 23 1 v n (za.map encU)) ∨ (j = .int .i64 2 ∧ wr.ownsRow w.heap.size 23 1 v (n + m) ((za ++ zb).map encU)))) (fun _ j _ => 2 - (intOf j).toNat)
      case atStart => exact ⟨HBL.out, .inl ⟨rfl, HO.out⟩⟩
      case round =>
        obtain ⟨hbr, h⟩ := hrel
        have g0 := cellB hbr H0.out
        have g1 := cellB hbr H1.out
        have HBR := hide hbr
        have SA := hide (HA.out.below hbr).src
        have SB := hide (HB.out.below hbr).src
        clear hbr
        rcases h with ⟨rfl, hown⟩ | ⟨rfl, hown⟩ | ⟨rfl, hown⟩
        · obtain ⟨A1, c1, rfl⟩ := own_slice hown
          have HO := hide hown
          clear hown
          go_wp2_with (at_builtin; refine app_src rfl (.tmp 31) (.tmp 32) 22 rfl w.heap.size 23 i1 _ 1 4 Tryd.underlying22 hi1 iz1 is1 ib1 rfl (by decide) _ 0 [] rfl HO.out A n c _ rfl SA.out ?ones ?c63 ?cby ?cbase ?_)
          case ones => simp [Value.oneCell']
          case c63 => unfold maxLen; omega
          case cby => omega
          case cbase => exact HBR.out.size
          intro v2 w2 hown2 hgrow2
          have HB2 := hide (HBR.out.grown hgrow2 HBR.out.size (fun k hk => (HO.out.lt _ hk).1))
          have HO2 := hide hown2
          clear hgrow2 hown2
          go_wp2_with fail
          go_roundw
          case rel => exact ⟨HB2.out, .inr (.inl ⟨by go_num, by have := HO2.out; simpa using this⟩)⟩
          case measure => simp [intOf]
        · obtain ⟨A1, c1, rfl⟩ := own_slice hown
          have HO := hide hown
          clear hown
          go_wp2_with (at_builtin; refine app_src rfl (.tmp 31) (.tmp 32) 22 rfl w.heap.size 23 i1 _ 1 4 Tryd.underlying22 hi1 iz1 is1 ib1 rfl (by decide) _ n _ rfl HO.out B m d _ rfl SB.out ?ones ?c63 ?cby ?cbase ?_)
          case ones => simp [Value.oneCell']
          case c63 => unfold maxLen; omega
          case cby => omega
          case cbase => exact HBR.out.size
          intro v2 w2 hown2 hgrow2
          have HB2 := hide (HBR.out.grown hgrow2 HBR.out.size (fun k hk => (HO.out.lt _ hk).1))
          have HO2 := hide hown2
          clear hgrow2 hown2
          go_wp2_with fail
          go_roundw
          case rel => exact ⟨HB2.out, .inr (.inr ⟨by go_num, by have := HO2.out; simpa using this⟩)⟩
          case measure => simp [intOf]
        · obtain ⟨A1, c1, rfl⟩ := own_slice hown
          have HO := hide hown
          clear hown
          go_wp2_with fail
          go_ret
          exact ⟨_, rfl, HO.out, HBR.out⟩

set_option maxHeartbeats 1000000 in
theorem join_any (A : Option Addr) (n c : Nat) (za : List Int) (B : Option Addr) (m d : Nat) (zb : List Int) (w : World) (hn : n ≤ 400000000000) (hm : m ≤ 400000000000) (ha : Row w A n c za) (hb : Row w B m d zb) :
    Calls Tryd.prog 7 #[.slice A n c, .slice B m d] w (UOut (normL (za ++ zb)) w) := by
  have hbl := bel_one w (.cells #[.slice A n c, .slice B m d] 22)
  have HC := hide (concat_any A n c za B m d zb w.heap.size (w.alloc (.cells #[.slice A n c, .slice B m d] 22)) (by omega) (by omega) (ha.below hbl) (hb.below hbl) (cell_heap (heap_new _ _) rfl) (cell_heap (heap_new _ _) rfl))
  have HBL := hide hbl
  clear ha hb hbl
  go_enter Tryd.func7, Tryd.ntmps7
  go_wp2_with fail
  refine HC.out.mono ?_; rintro e w1 ⟨v, rfl, hown, hb1⟩
  obtain ⟨A1, c1, rfl, hrow⟩ := Row.own hown
  have HN := hide (normal_any A1 (n + m) c1 (za ++ zb) w1 (by omega) hrow)
  have HB1 := hide (below_wide HBL.out hb1)
  clear hown hb1 hrow
  go_wp2_with fail
  refine HN.out.mono ?_; rintro e w2 ⟨v2, rfl, hown2, hb2⟩
  have HO := hide (own_base hown2 HB1.out.size)
  have HB2 := hide (below_wide HB1.out hb2)
  clear hown2 hb2
  go_wp2_with fail
  go_ret
  exact ⟨_, rfl, HO.out, HB2.out⟩

set_option maxHeartbeats 1000000 in
theorem rjoin_any (A : Option Addr) (n c : Nat) (za : List Int) (B : Option Addr) (m d : Nat) (zb : List Int) (w : World) (hn : n ≤ 400000000000) (hm : m ≤ 400000000000) (ha : Row w A n c za) (hb : Row w B m d zb) :
    Calls Tryd.prog 12 #[.slice A n c, .slice B m d] w (UOut (normL (za ++ zb)) w) := by
  obtain ⟨i1, hi1, iz1, is1, ib1⟩ := hasI1
  have SA := hide ha.src
  have HB := hide hb
  have HO : Hid (w.ownsRow w.heap.size 23 1 (.slice none 0 0) 0 []) := ⟨rfl, .inl ⟨rfl, rfl⟩⟩
  clear ha hb
  go_enter Tryd.func12, Tryd.ntmps12
  go_wp2_with (at_builtin; refine app_src rfl (.tmp 6) (.tmp 7) 22 rfl w.heap.size 23 i1 _ 1 4 Tryd.underlying22 hi1 iz1 is1 ib1 rfl (by decide) _ 0 [] rfl HO.out A n c _ rfl SA.out ?ones ?c63 ?cby ?cbase ?_)
  case ones => simp [Value.oneCell']
  case c63 => unfold maxLen; omega
  case cby => omega
  case cbase => exact Nat.le_refl _
  intro v1 w1 hown1 hgrow1
  have HB1 := hide ((Below.refl w.heap.size w).grown hgrow1 (Nat.le_refl _) (fun k hk => (HO.out.lt _ hk).1))
  try simp only [Nat.zero_add, List.nil_append] at hown1
  obtain ⟨A1, c1, rfl⟩ := own_slice hown1
  have HO1 := hide hown1
  have SB := hide (HB.out.below HB1.out).src
  clear hown1 hgrow1
  go_wp2_with (at_builtin; refine app_src rfl (.tmp 9) (.tmp 10) 22 rfl w.heap.size 23 i1 _ 1 4 Tryd.underlying22 hi1 iz1 is1 ib1 rfl (by decide) _ n _ rfl HO1.out B m d _ rfl SB.out ?ones ?c63 ?cby ?cbase ?_)
  case ones => simp [Value.oneCell']
  case c63 => unfold maxLen; omega
  case cby => omega
  case cbase => exact HB1.out.size
  intro v2 w2 hown2 hgrow2
  have HB2 := hide (HB1.out.grown hgrow2 HB1.out.size (fun k hk => (HO1.out.lt _ hk).1))
  rw [← List.map_append] at hown2
  obtain ⟨A2, c2, rfl, hrow⟩ := Row.own hown2
  have HN := hide (rnormal_any A2 (n + m) c2 (za ++ zb) w2 (by omega) hrow)
  clear hown2 hgrow2 hrow
  go_wp2_with fail
  refine HN.out.mono ?_; rintro e w3 ⟨v3, rfl, hown3, hb3⟩
  have HO3 := hide (own_base hown3 HB2.out.size)
  have HB3 := hide (below_wide HB2.out hb3)
  clear hown3 hb3
  go_wp2_with fail
  go_ret
  exact ⟨_, rfl, HO3.out, HB3.out⟩
end Go.Proofs.YtopckpjhdbjmbaaDoor.Ld
