/- slices.Concat, lists.Join and the reference's Join. -/
import Derived.Test.YtopckpjhdbjmbaaDoorZR
import Derived.Test.YtopckpjhdbjmbaaDoorShelfB
namespace Go.Proofs.YtopckpjhdbjmbaaDoor.Ld
open Go.RowKit Go.Proofs.YtopckpjhdbjmbaaDoor.Lx

set_option maxRecDepth 100000 in
theorem grow_any (n : Nat) (w : World) (hn : n ≤ 70368744177664) :
    Calls Tryd.prog 41 #[.slice none 0 0, .int .i64 n] w fun e w' => ∃ A c, e = .returned (.slice A 0 c) ∧ n ≤ c ∧ w'.ownsRow w.heap.size 23 1 (.slice A 0 c) 0 [] ∧ Below w.heap.size w w' := by
  obtain ⟨i, hi, hz, hs, hb⟩ := hasI1
  rcases Nat.eq_zero_or_pos n with rfl | h0
  · refine (Any8.slices_Grow_room Tryd.growU none 0 0 0 w (Nat.le_refl _) (by omega) (by omega) (Nat.le_refl _)).mono ?_
    rintro e w' ⟨rfl, rfl⟩
    exact ⟨_, _, rfl, Nat.le_refl _, ⟨rfl, .inl ⟨rfl, rfl⟩⟩, Below.refl _ _⟩
  · have hr : ∀ ty, (Builtin.append_ #[22, 3] ty #[.slice none 0 0, .int .i64 n]).run Tryd.prog w =
        .ok (.slice (some ⟨w.heap.size, 0, none⟩) n (grownCap w n 0 23)) (w.drew.alloc (.cells (Builtin.zeroCells (Value.int .u32 0).cells n ++ Builtin.zeroCells (Value.int .u32 0).cells (grownCap w n 0 23 - n)) 23)) := fun ty =>
      Lib.run_append_nil_zeros w _ _ ty _ i _ _ _ Tryd.underlying22 Tryd.underlying3 hi hz n h0 (by omega) (by omega) (by rw [hb]; omega)
    have hc := grownCap_ge w n 0 23
    have hm := grownCap_le_maxLen w n 0 23 (by unfold maxLen; omega)
    have hown : (w.drew.alloc (.cells (Builtin.zeroCells (Value.int .u32 0).cells n ++ Builtin.zeroCells (Value.int .u32 0).cells (grownCap w n 0 23 - n)) 23)).ownsRow w.heap.size 23 1 (.slice (some ⟨w.heap.size, 0, none⟩) 0 (grownCap w n 0 23)) 0 [] := by
      refine ⟨rfl, .inr ⟨w.heap.size, _, _, rfl, Nat.le_refl _, heap_alloc_new w.drew _, Nat.zero_le _, hm, ?_, by simp⟩⟩
      rw [Array.size_append, size_zeroCells, size_zeroCells, show (Value.int .u32 0).cells.size = 1 from rfl]
      omega
    have hbel := ((Below.refl w.heap.size w).drew).alloc (Nat.le_refl _) (.cells (Builtin.zeroCells (Value.int .u32 0).cells n ++ Builtin.zeroCells (Value.int .u32 0).cells (grownCap w n 0 23 - n)) 23)
    have HR := hide hr
    have HOWN := hide hown
    have HBEL := hide hbel
    clear hr hown hbel
    generalize grownCap w n 0 23 = C at *
    generalize (w.drew.alloc (.cells (Builtin.zeroCells (Value.int .u32 0).cells n ++ Builtin.zeroCells (Value.int .u32 0).cells (C - n)) 23)) = w1 at *
    unfold maxLen at hm
    have hn0 : ¬ (n : Int) < 0 := by omega
    have hn1 : (n : Int) > 0 := by omega
    go_enter Tryd.func41, Tryd.ntmps41
    go_wp2_with (at_builtin; refine Lib.wpList_append_run _ rfl _ _ _ _ rfl _ _ rfl rfl _ _ (HR.out _) ?_)
    go_ret
    exact ⟨_, _, rfl, hc, HOWN.out, HBEL.out⟩

set_option maxHeartbeats 1000000 in
set_option maxRecDepth 100000 in
theorem concat_any (A : Option Addr) (n c : Nat) (za : List Int) (B : Option Addr) (m d : Nat) (zb : List Int) (Q : Nat) (w : World) (hnm : n + m ≤ 70368744177664) (ha : Row w A n c za) (hb : Row w B m d zb)
    (h0 : w.cell? ⟨Q, 0, none⟩ = some (.slice A n c)) (h1 : w.cell? ⟨Q, 1, none⟩ = some (.slice B m d)) :
    Calls Tryd.prog 24 #[.slice (some ⟨Q, 0, none⟩) 2 2] w fun e w' => ∃ v, e = .returned v ∧ w'.ownsRow w.heap.size 23 1 v (n + m) ((za ++ zb).map encU) ∧ Below w.heap.size w w' := by
  obtain ⟨i1, hi1, iz1, is1, ib1⟩ := hasI1
  have HG := hide (grow_any (n + m) w (by omega))
  have HA := hide ha
  have HB := hide hb
  have H0 := hide h0
  have H1 := hide h1
  rw [show ((n + m : Nat) : Int) = (n : Int) + (m : Int) by omega] at HG
  clear ha hb
  go_enter Tryd.func24, Tryd.ntmps24
  go_wp2_with fail
  have hn0 : ¬ (n : Int) < 0 := by omega
  have hm0 : ¬ (n : Int) + (m : Int) < 0 := by omega
  go_loop [3, 11] (fun s3 j => (j = .int .i64 0 ∧ s3 = .int .i64 0) ∨ (j = .int .i64 1 ∧ s3 = .int .i64 n) ∨ (j = .int .i64 2 ∧ s3 = .int .i64 ((n : Int) + (m : Int)))) (fun _ j => 2 - (intOf j).toNat)
  case atStart => exact .inl ⟨rfl, rfl⟩
  case round =>
    rcases hrel with ⟨rfl, rfl⟩ | ⟨rfl, rfl⟩ | ⟨rfl, rfl⟩
    · go_wp2_with fail
      go_round
      case rel => exact .inr (.inl ⟨by go_num, by go_num⟩)
      case measure => simp [intOf]
    · go_wp2_with fail
      go_round
      case rel => exact .inr (.inr ⟨by go_num, by go_num⟩)
      case measure => simp [intOf]
    · go_wp2_with fail
      refine HG.out.mono ?_; rintro e w1 ⟨GA, gc, rfl, hgc, hown, hbl⟩
      have HO := hide hown
      have HBL := hide hbl
      clear hown hbl h0 h1
      go_wp2_with fail
      go_loopw [6, 27] (fun v j wr => Below w.heap.size w wr ∧ ((j = .int .i64 0 ∧ v = .slice GA 0 gc ∧ wr.ownsRow w.heap.size 23 1 v 0 []) ∨ (j = .int .i64 1 ∧ v = .slice GA n gc ∧ wr.ownsRow w.heap.size 23 1 v n (za.map encU)) ∨ (j = .int .i64 2 ∧ wr.ownsRow w.heap.size 23 1 v (n + m) ((za ++ zb).map encU)))) (fun _ j _ => 2 - (intOf j).toNat)
      case atStart => exact ⟨HBL.out, .inl ⟨rfl, rfl, HO.out⟩⟩
      case round =>
        obtain ⟨hbr, h⟩ := hrel
        have g0 := cellB hbr H0.out
        have g1 := cellB hbr H1.out
        have HBR := hide hbr
        have SA := hide (HA.out.below hbr).src
        have SB := hide (HB.out.below hbr).src
        clear hbr
        rcases h with ⟨rfl, rfl, hown⟩ | ⟨rfl, rfl, hown⟩ | ⟨rfl, hown⟩
        · have HO := hide hown
          clear hown
          go_wp2_with (at_builtin; refine app_fit rfl (.tmp 31) (.tmp 32) 22 rfl w.heap.size 23 i1 _ Tryd.underlying22 hi1 iz1 is1 rfl _ 0 [] rfl HO.out A n c _ rfl SA.out ?ones ?c63 ?cby ?cbase ?_)
          case ones => simp [Value.oneCell']
          case c63 => unfold maxLen; omega
          case cby => intro B k hv hk; injection hv with _ _ hv; omega
          case cbase => exact HBR.out.size
          intro v2 w2 hown2 hgrow2 hv2
          have hv3 := hv2 (by omega)
          subst hv3
          have HB2 := hide (HBR.out.grown hgrow2 HBR.out.size (fun k hk => (HO.out.lt _ hk).1))
          have HO2 := hide hown2
          clear hgrow2 hown2
          go_wp2_with fail
          go_roundw
          case rel => exact ⟨HB2.out, .inr (.inl ⟨by go_num, rfl, by have := HO2.out; simpa using this⟩)⟩
          case measure => simp [intOf]
        · have HO := hide hown
          clear hown
          go_wp2_with (at_builtin; refine app_fit rfl (.tmp 31) (.tmp 32) 22 rfl w.heap.size 23 i1 _ Tryd.underlying22 hi1 iz1 is1 rfl _ n _ rfl HO.out B m d _ rfl SB.out ?ones ?c63 ?cby ?cbase ?_)
          case ones => simp [Value.oneCell']
          case c63 => unfold maxLen; omega
          case cby => intro B k hv hk; injection hv with _ _ hv; omega
          case cbase => exact HBR.out.size
          intro v2 w2 hown2 hgrow2 _
          have HB2 := hide (HBR.out.grown hgrow2 HBR.out.size (fun k hk => (HO.out.lt _ hk).1))
          have HO2 := hide hown2
          clear hgrow2 hown2
          obtain ⟨A1, c1, rfl⟩ := own_slice HO2.out
          go_wp2_with fail
          go_roundw
          case rel => exact ⟨HB2.out, .inr (.inr ⟨by go_num, by have := HO2.out; simpa using this⟩)⟩
          case measure => simp [intOf]
        · obtain ⟨A1, c1, rfl⟩ := own_slice hown
          have HO := hide hown
          clear hown
          go_wp2_with fail
          go_ret
          exact ⟨_, rfl, HO.out, HBR.out⟩

set_option maxHeartbeats 1000000 in
theorem join_full (A : Option Addr) (n c : Nat) (za : List Int) (B : Option Addr) (m d : Nat) (zb : List Int) (w : World) (hnm : n + m ≤ 70368744177664) (ha : Row w A n c za) (hb : Row w B m d zb) :
    Calls Tryd.prog 7 #[.slice A n c, .slice B m d] w (UOut (normL (za ++ zb)) w) := by
  have hbl := bel_one w (.cells #[.slice A n c, .slice B m d] 22)
  have HC := hide (concat_any A n c za B m d zb w.heap.size (w.alloc (.cells #[.slice A n c, .slice B m d] 22)) hnm (ha.below hbl) (hb.below hbl) (cell_heap (heap_new _ _) rfl) (cell_heap (heap_new _ _) rfl))
  have HBL := hide hbl
  clear ha hb hbl
  go_enter Tryd.func7, Tryd.ntmps7
  go_wp2_with fail
  refine HC.out.mono ?_; rintro e w1 ⟨v, rfl, hown, hb1⟩
  obtain ⟨A1, c1, rfl, hrow⟩ := Row.own hown
  have HN := hide (normal_any A1 (n + m) c1 (za ++ zb) w1 (by omega) hrow)
  have HB1 := hide (below_wide HBL.out hb1)
  clear hown hb1 hrow
  go_wp2_with fail
  refine HN.out.mono ?_; rintro e w2 ⟨v2, rfl, hown2, hb2⟩
  have HO := hide (own_base hown2 HB1.out.size)
  have HB2 := hide (below_wide HB1.out hb2)
  clear hown2 hb2
  go_wp2_with fail
  go_ret
  exact ⟨_, rfl, HO.out, HB2.out⟩

theorem join_any (A : Option Addr) (n c : Nat) (za : List Int) (B : Option Addr) (m d : Nat) (zb : List Int) (w : World) (hn : n ≤ 400000000000) (hm : m ≤ 400000000000) (ha : Row w A n c za) (hb : Row w B m d zb) :
    Calls Tryd.prog 7 #[.slice A n c, .slice B m d] w (UOut (normL (za ++ zb)) w) := join_full A n c za B m d zb w (by omega) ha hb

set_option maxHeartbeats 1000000 in
theorem rjoin_any (A : Option Addr) (n c : Nat) (za : List Int) (B : Option Addr) (m d : Nat) (zb : List Int) (w : World) (hn : n ≤ 400000000000) (hm : m ≤ 400000000000) (ha : Row w A n c za) (hb : Row w B m d zb) :
    Calls Tryd.prog 12 #[.slice A n c, .slice B m d] w (UOut (normL (za ++ zb)) w) := by
  obtain ⟨i1, hi1, iz1, is1, ib1⟩ := hasI1
  have SA := hide ha.src
  have HB := hide hb
  have HO : Hid (w.ownsRow w.heap.size 23 1 (.slice none 0 0) 0 []) := ⟨rfl, .inl ⟨rfl, rfl⟩⟩
  clear ha hb
  go_enter Tryd.func12, Tryd.ntmps12
  go_wp2_with (at_builtin; refine app_src rfl (.tmp 6) (.tmp 7) 22 rfl w.heap.size 23 i1 _ 1 4 Tryd.underlying22 hi1 iz1 is1 ib1 rfl (by decide) _ 0 [] rfl HO.out A n c _ rfl SA.out ?ones ?c63 ?cby ?cbase ?_)
  case ones => simp [Value.oneCell']
  case c63 => unfold maxLen; omega
  case cby => omega
  case cbase => exact Nat.le_refl _
  intro v1 w1 hown1 hgrow1
  have HB1 := hide ((Below.refl w.heap.size w).grown hgrow1 (Nat.le_refl _) (fun k hk => (HO.out.lt _ hk).1))
  try simp only [Nat.zero_add, List.nil_append] at hown1
  obtain ⟨A1, c1, rfl⟩ := own_slice hown1
  have HO1 := hide hown1
  have SB := hide (HB.out.below HB1.out).src
  clear hown1 hgrow1
  go_wp2_with (at_builtin; refine app_src rfl (.tmp 9) (.tmp 10) 22 rfl w.heap.size 23 i1 _ 1 4 Tryd.underlying22 hi1 iz1 is1 ib1 rfl (by decide) _ n _ rfl HO1.out B m d _ rfl SB.out ?ones ?c63 ?cby ?cbase ?_)
  case ones => simp [Value.oneCell']
  case c63 => unfold maxLen; omega
  case cby => omega
  case cbase => exact HB1.out.size
  intro v2 w2 hown2 hgrow2
  have HB2 := hide (HB1.out.grown hgrow2 HB1.out.size (fun k hk => (HO1.out.lt _ hk).1))
  rw [← List.map_append] at hown2
  obtain ⟨A2, c2, rfl, hrow⟩ := Row.own hown2
  have HN := hide (rnormal_any A2 (n + m) c2 (za ++ zb) w2 (by omega) hrow)
  clear hown2 hgrow2 hrow
  go_wp2_with fail
  refine HN.out.mono ?_; rintro e w3 ⟨v3, rfl, hown3, hb3⟩
  have HO3 := hide (own_base hown3 HB2.out.size)
  have HB3 := hide (below_wide HB2.out hb3)
  clear hown3 hb3
  go_wp2_with fail
  go_ret
  exact ⟨_, rfl, HO3.out, HB3.out⟩
end Go.Proofs.YtopckpjhdbjmbaaDoor.Ld
