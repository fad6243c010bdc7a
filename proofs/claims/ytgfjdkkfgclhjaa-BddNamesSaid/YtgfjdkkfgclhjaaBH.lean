/- check: are numbers nodes that were given out? -/
import Derived.Test.YtgfjdkkfgclhjaaBC
namespace Go.Proofs.Ytgfjdkkfgclhjaa.Bd
open Go.RowKit Go.Proofs.Ytgfjdkkfgclhjaa Go.Proofs.Ytgfjdkkfgclhjaa.Lx Go.Maps

theorem check_nil (v : Value) (w : World) : Calls Try.prog 28 #[.pointer none, v] w fun e w' => e = .returned (.int .i64 2) ∧ w' = w := by
  go_enter Try.func28, Try.ntmps28
  go_wp2_with fail
  go_ret
  exact ⟨rfl, rfl⟩
def gvn (s : St) (l : List Int) : Int := if l.all s.gi then 0 else 1
theorem gvn_no {s : St} {l : List Int} {x : Int} (hx : x ∈ l) (h : s.gi x = false) : gvn s l = 1 := by
  unfold gvn
  rw [if_neg]
  intro ha
  have := List.all_eq_true.1 ha x hx
  rw [h] at this
  cases this
theorem gvn_all {s : St} {l : List Int} (h : ∀ x ∈ l, s.gi x = true) : gvn s l = 0 := by
  unfold gvn
  rw [if_pos (List.all_eq_true.2 h)]

set_option maxHeartbeats 1000000 in
set_option maxRecDepth 100000 in
theorem check_any (k : Blk) (s : St) (l : List Int) (Q : Nat) (w : World) (hA : Ar w k s) (hl : ∀ (j : Nat) (x : Int), l[j]? = some x → w.cell? ⟨Q, j, none⟩ = some (.int .i64 x)) (hr : ∀ x ∈ l, -9223372036854775808 ≤ x ∧ x < 9223372036854775808) (hn : l.length < 1000) :
    Calls Try.prog 28 #[.pointer (some ⟨k.p, 0, none⟩), .slice (some ⟨Q, 0, none⟩) l.length l.length] w fun e w' => e = .returned (.int .i64 (gvn s l)) ∧ w' = w := by
  obtain ⟨fb, ft, H, I⟩ := hA
  obtain ⟨N, HG⟩ := H.gi
  have c5 := H.c5
  have HL := hide hl
  have HR := hide hr
  clear hl hr
  go_enter Try.func28, Try.ntmps28
  go_wp2_with fail
  go_loop [6, 11] (fun _ j => ∃ i : Nat, j = .int .i64 i ∧ i ≤ l.length ∧ ∀ x ∈ l.take i, s.gi x = true) (fun _ j => l.length - (intOf j).toNat)
  case atStart => exact ⟨0, rfl, Nat.zero_le _, by simp⟩
  case round =>
    obtain ⟨i, rfl, hi, hall⟩ := hrel
    rcases Nat.lt_or_ge i l.length with hlt | hge
    · obtain ⟨x, hx⟩ : ∃ x, l[i]? = some x := ⟨_, List.getElem?_eq_getElem hlt⟩
      have d1 : decide (i < l.length) = true := by simpa using hlt
      have d2 : ((i : Int) < l.length) := by omega
      have hc := HL.out i x hx
      have hxr := HR.out x (List.mem_of_getElem? hx)
      have lk : (Instr.lookup 62 (.map (some k.gi)) (.int .i64 x) false).run Try.prog w = .ok (.bool (s.gi x)) w := HG.look keyedI Try.underlying62 Try.underlying4 (zeroB _) (keyI x hxr.1 hxr.2)
      cases hg : s.gi x with
      | false =>
        rw [hg] at lk
        have HV := hide (gvn_no (List.mem_of_getElem? hx) hg)
        clear H I HG
        go_wp2_with fail
        go_ret
        exact ⟨by rw [HV.out]; rfl, rfl⟩
      | true =>
        rw [hg] at lk
        have HV : Hid (∀ y ∈ l.take (i + 1), s.gi y = true) := by
          intro y hy
          rw [List.take_add_one, hx] at hy
          rcases List.mem_append.1 hy with h | h
          · exact hall y h
          · have : y = x := by simpa using h
            rw [this]; exact hg
        clear H I HG hall
        go_wp2_with fail
        go_round
        case rel => exact ⟨i + 1, by go_num, by omega, HV.out⟩
        case measure => simp [intOf]; omega
    · have e : i = l.length := by omega
      have d1 : decide (i < l.length) = false := by simp; omega
      subst e
      have HV := hide (gvn_all (s := s) (l := l) (by simpa using hall))
      clear H I HG hall
      go_wp2_with fail
      go_ret
      exact ⟨by rw [HV.out]; rfl, rfl⟩
end Go.Proofs.Ytgfjdkkfgclhjaa.Bd
