/- below: each node beneath one, once. -/
import Derived.Test.YtgfjdkkfgclhjaaCA
namespace Go.Proofs.Ytgfjdkkfgclhjaa.Bd
open Go.RowKit Go.Proofs.Ytgfjdkkfgclhjaa Go.Proofs.Ytgfjdkkfgclhjaa.Lx Go.Maps

/-- the nodes beneath f, in the order of the visit -/
abbrev noH : Int → Bool := fun _ => false
def beneath (nd : List Nd) (f : Nat) : List Nat := vis nd noH (f + 1) [] f
set_option maxHeartbeats 4000000 in
set_option maxRecDepth 100000 in
theorem below1_any (k : Blk) (s : St) (w0 : World) (hA : Ar w0 k s) (hm : s.m + 2 ≤ 1000000000) (b1 b2 b3 b4 sb bo ba : Nat) : ∀ (n f : Nat) (fr : List Nat) (w : World), f < n → f < s.nd.length → Met s.nd noH fr → Bs w0 w s.nd k.p b1 b2 b3 b4 sb bo ba fr fr →
    Calls Try.prog 59 #[.int .i32 f, .pointer (some ⟨b1, 0, none⟩), .pointer (some ⟨b2, 0, none⟩), .pointer (some ⟨b3, 0, none⟩), .pointer (some ⟨b4, 0, none⟩)] w fun e w' => e = .returned (.tuple #[]) ∧ Bs w0 w' s.nd k.p b1 b2 b3 b4 sb bo ba (vis s.nd noH n fr f) (vis s.nd noH n fr f) := by
  have hW := hA.wf
  have hnm := hA.nm
  intro n
  induction n with
  | zero => intro f fr w h; omega
  | succ n ih =>
    intro f fr w hfn hf hM V
    have hlen := hM.len
    have k1 := cell_heap (j := 0) V.c1 rfl
    have lk1 : (Instr.lookup 63 (.map (some sb)) (.int .i32 f) false).run Try.prog w = .ok (.bool (seenB fr f)) w := V.seen.look keyed3 Try.underlying63 Try.underlying4 (zeroB _) (key3 f (by omega) (by omega))
    cases hs : seenB fr f with
    | true =>
      rw [hs] at lk1
      have HV : Hid (Bs w0 w s.nd k.p b1 b2 b3 b4 sb bo ba (vis s.nd noH (n + 1) fr f) (vis s.nd noH (n + 1) fr f)) := by
        rw [seenB_nat] at hs
        have : vis s.nd noH (n + 1) fr f = fr := by
          unfold vis
          rw [if_pos]
          rcases of_decide_eq_true hs with h | h
          · exact .inl h
          · exact .inr (.inl h)
        rw [this]; exact V
      clear V hM ih hs hA
      go_enter Try.func59, Try.ntmps59
      go_wp2_with fail
      (try simp only [Exit.inBlock, Exit.then])
      refine bodyPost_ret (results_none rfl _ _ _) rfl ?_
      exact ⟨rfl, HV.out⟩
    | false =>
      rw [hs] at lk1
      have hsf := hs
      rw [seenB_nat] at hs
      have hc : ¬ (f < 2 ∨ f ∈ fr ∨ noH f = true) := by
        have := of_decide_eq_false hs
        rintro (h | h | h)
        · exact this (.inl h)
        · exact this (.inr h)
        · cases h
      obtain ⟨⟨v, lo, hi⟩, hx⟩ : ∃ x, s.nd[f]? = some x := ⟨_, List.getElem?_eq_getElem hf⟩
      obtain ⟨t, F, d⟩ := hW.den f hf
      obtain ⟨lo', hi', _, _, _, _, hr, r1, r2, _⟩ := d.row (by omega)
      rw [hx] at hr
      simp only [Option.some.injEq, Prod.mk.injEq] at hr
      obtain ⟨_, rfl, rfl⟩ := hr
      have hvis : vis s.nd noH (n + 1) fr f = vis s.nd noH n (vis s.nd noH n (fr ++ [f]) lo) hi := by
        conv => lhs; unfold vis
        rw [if_neg hc, hx]
      rw [hvis]
      have HM := hide (hM.push hc hf)
      have HM2 := hide (vis_met hW n (fr ++ [f]) lo (by omega) HM.out)
      have HI1 := hide (fun w => ih lo (fr ++ [f]) w (by omega) (by omega) HM.out)
      have HI2 := hide (fun w => ih hi (vis s.nd noH n (fr ++ [f]) lo) w (by omega) (by omega) HM2.out)
      have HVV := hide V
      have HA0 := hide hA
      have HX := hide hx
      have hfl : (fr ++ [f]).length = fr.length + 1 := by simp
      clear ih d V hvis hA hx
      go_enter Try.func59, Try.ntmps59
      go_wp2_with (at_mapUpdate; go_must (refine wpList_add rfl (.tmp 9) (.tmp 10) _ rfl HVV.out.seen keyed3 Try.underlying63 Try.underlying4 (by unfold maxLen; omega) enc3_inj rfl (f : Int) _ rfl (key3 f (by omega) (by omega)) rfl ?_))
      simp only [hsf, Bool.false_eq_true, if_false, seenB_push]
      intro w1 hms hmt
      have HV1 := hide (HVV.out.mark hms hmt)
      clear hms hmt lk1 k1 hfl HVV
      have k2 := cell_heap (j := 0) HV1.out.c2 rfl
      go_wp2_with fail
      refine (support1_any k s f (HA0.out.below HV1.out.below) rfl hf hm (by omega) HV1.out).mono ?_
      rintro e w3 ⟨rfl, V3⟩
      have HV3 := hide V3
      clear V3 k2 HV1
      go_wp2_with fail
      have r0 : (f : Int) < s.nd.length := by omega
      obtain ⟨_, _, H3, _⟩ := HA0.out.below HV3.out.below
      have g4 : w3.drew.cell? ⟨b3, 0, none⟩ = some _ := cell_heap HV3.out.c3 rfl
      have g2 : w3.drew.cell? ⟨b4, 0, none⟩ = some (.pointer (some ⟨k.p, 0, none⟩)) := cell_heap HV3.out.c4 rfl
      have g5 := H3.drew.c2
      have g6 := (H3.drew.node HX.out).2.1
      go_still_tail 9, (by kernel_rfl)
      change wpList _ _ _ _ _ w3.drew
      have HV4 := hide HV3.out.drew
      generalize w3.drew = w4 at *
      clear g4 g2 g5 g6 H3 HV3
      go_wp2_with fail
      refine (HI1.out _ HV4.out).mono ?_
      rintro e w5 ⟨rfl, V5⟩
      have HV5 := hide V5
      clear V5 HV4
      go_wp2_with fail
      obtain ⟨_, _, H5, _⟩ := HA0.out.below HV5.out.below
      have g4 : w5.drew.cell? ⟨b3, 0, none⟩ = some _ := cell_heap HV5.out.c3 rfl
      have g2 : w5.drew.cell? ⟨b4, 0, none⟩ = some (.pointer (some ⟨k.p, 0, none⟩)) := cell_heap HV5.out.c4 rfl
      have g5 := H5.drew.c2
      have g6 := (H5.drew.node HX.out).2.2
      go_still_tail 9, (by kernel_rfl)
      change wpList _ _ _ _ _ w5.drew
      have HV6 := hide HV5.out.drew
      generalize w5.drew = w6 at *
      clear g4 g2 g5 g6 H5 HV5
      go_wp2_with fail
      refine (HI2.out _ HV6.out).mono ?_
      rintro e w7 ⟨rfl, V7⟩
      have HV7 := hide V7
      clear V7 HV6
      go_wp2_with fail
      go_end0
      exact ⟨rfl, HV7.out⟩
end Go.Proofs.Ytgfjdkkfgclhjaa.Bd
