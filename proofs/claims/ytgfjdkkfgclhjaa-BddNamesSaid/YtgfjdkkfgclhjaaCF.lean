/- Count: where a node's variable stands. -/
import Derived.Test.YtgfjdkkfgclhjaaCE
namespace Go.Proofs.Ytgfjdkkfgclhjaa.Bd
open Go.RowKit Go.Proofs.Ytgfjdkkfgclhjaa Go.Proofs.Ytgfjdkkfgclhjaa.Lx Go.Maps

set_option maxHeartbeats 1000000 in
set_option maxRecDepth 100000 in
theorem place_any (S : Nat → Bool) (k : Blk) (s : St) (f t : Nat) (F : Env → Bool) (A : Option Addr) (c : Nat) (ov : List Nat) (b5 b3 : Nat) (w : World) (hA : Ar w k s) (d : Den S s.nd f t F) (hov : Rise ov) (hall : ∀ x ∈ ov, x < 256) (hin : 2 ≤ f → t ∈ ov) (hS : Src w A ov.length c 1 ((encL ov).map encI)) (hn : ov.length ≤ 127) (c5 : w.cell? ⟨b5, 0, none⟩ = some (.slice A ov.length c)) (c3 : w.cell? ⟨b3, 0, none⟩ = some (.pointer (some ⟨k.p, 0, none⟩))) (hm : s.m + 2 ≤ 1000000000) :
    Calls Try.prog 30 #[.int .i32 f, .pointer (some ⟨b5, 0, none⟩), .pointer (some ⟨b3, 0, none⟩)] w fun e w' => e = .returned (.int .i64 (plc ov t)) ∧ Below w.heap.size w w' := by
  have hW := hA.wf
  have hnm := hA.nm
  have hfl := d.lt hW
  rcases Nat.lt_or_ge f 2 with h2 | h2
  · have d1 : decide ((f : Int) < 2) = true := by simp; omega
    obtain ⟨rfl, _⟩ := d.ends h2
    have HV := hide (plc_all hall)
    clear hA d hin hS
    go_enter Try.func30, Try.ntmps30
    go_wp2_with fail
    go_ret
    exact ⟨by rw [HV.out]; rfl, Below.refl _ _⟩
  · have d1 : decide ((f : Int) < 2) = false := by simp; omega
    obtain ⟨lo, hi, tl, th, Fl, Fh, hr, r1, r2, r3, r4, r5, r6, r7, dl, dh, _⟩ := d.row h2
    obtain ⟨_, _, H, _⟩ := hA
    have hfi : (f : Int) < s.nd.length := by omega
    have u5 := lat_cell c5
    have u3 := lat_cell c3
    have u2 := lat_cell H.c2
    have u0 := lat_cell (H.node hr).1
    have HI := hide (fun x => (index_any A c (encL ov) (t : Int) (lat w x) (by rw [encL_len]; exact Src.below hS (lat_below w x)) (by rw [encL_len]; unfold maxLen; omega)))
    rw [idx_plc hov (hin h2), encL_len] at HI
    clear hin hS d dl dh H c5 c3
    go_enter Try.func30, Try.ntmps30
    go_wp2_with fail
    refine wp_region_lat (by kernel_rfl) (by kernel_rfl) ?_
    repeat (first | go_big_quiet_step ((go_at_call 31; exact calls_lat_same (HI.out _))) | quiet_step ((go_at_call 31; exact calls_lat_same (HI.out _))))
    refine wpQuiet_nil ?_
    intro _ hlat
    obtain ⟨wq, rfl⟩ := hlat
    go_wp2_with fail
    go_ret
    exact ⟨rfl, lat_below w wq⟩
end Go.Proofs.Ytgfjdkkfgclhjaa.Bd
