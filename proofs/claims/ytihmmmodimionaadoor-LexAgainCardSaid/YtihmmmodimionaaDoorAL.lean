import Derived.Test.YtihmmmodimionaaDoorAN
namespace Go.Proofs.YtihmmmodimionaaDoor.Lx
open Go.RowKit

theorem T_one (b : ByteArray) (k : Nat) (h : k < b.size) : T (b.extract k (k + 1)) = [b[k]] := by
  rw [T_extract, T_take b k h, List.drop_left' (by rw [List.length_take, T_len]; omega)]

set_option maxRecDepth 100000 in
set_option maxHeartbeats 4000000 in
theorem alaw_any (s note : ByteArray) (b : Int) (w : World) (hlen : s.size ≤ maxLen) (hnote : note.size ≤ maxLen) (hb0 : 0 ≤ b) (hb1 : b ≤ 255) (m : Int) (hm : w.cell? ⟨0, 0, none⟩ = some (.int .i64 m)) :
    Calls Tryd.prog 5 #[.string s, .int .u8 b, .string note] w fun e w' => e = .returned (.bool true) ∧ Below w.heap.size w w' := by
  have HWK := hide (works_any w m hm)
  have HM := hide hm
  have h00 := lt_of_cell hm
  simp only at h00
  have HLEN := hide hlen
  unfold maxLen at hnote
  clear hm hlen
  go_enter Tryd.func5, Tryd.ntmps5
  go_wp2_with fail
  refine HWK.out.mono ?_; rintro e0 w0 ⟨rfl, hb⟩
  have HM0 := hide (show w0.cell? ⟨0, 0, none⟩ = some (.int .i64 m) by rw [hb.cell (p := ⟨0, 0, none⟩) h00]; exact HM.out)
  have HB0 := hide hb
  clear hb HWK
  go_wp2_with fail
  go_loop [7, 8] (fun x j => ∃ (u : ByteArray) (k : Nat), x = .string u ∧ j = .int .i64 k ∧ k ≤ note.size ∧ k ≤ 20 ∧ u.size ≤ k ∧ ∀ y ∈ T u, 97 ≤ y.toNat ∧ y.toNat ≤ 122) (fun _ j => 20 - (intOf j).toNat)
  case atStart => exact ⟨_, 0, rfl, rfl, Nat.zero_le _, Nat.zero_le _, Nat.le_refl _, fun y hy => by cases hy⟩
  case round =>
    obtain ⟨u, k, rfl, rfl, hk, hk20, hus, hut⟩ := hrel
    have HUT := hide hut
    clear hut
    by_cases hlt : k < note.size ∧ k < 20
    · obtain ⟨hlt, hlt20⟩ := hlt
      by_cases hl1 : 97 ≤ note[k].toNat
      · by_cases hl2 : note[k].toNat ≤ 122
        · have hl1' : decide ((97 : Int) ≤ (note[k].toNat : Int)) = true := by simp; omega
          have hl2' : decide ((note[k].toNat : Int) ≤ 122) = true := by simp; omega
          have HL1 := hide hl1
          have HL2 := hide hl2
          clear hl1 hl2
          go_wp2_with fail
          go_round
          case rel =>
            refine ⟨_, k + 1, rfl, by go_num, hlt, by omega, by rw [ByteArray.size_append, ByteArray.size_extract]; omega, fun y hy => ?_⟩
            rw [T_app, T_one note k hlt] at hy
            rcases List.mem_append.1 hy with hy | hy
            · exact HUT.out y hy
            · have : y = note[k] := by simpa using hy
              rw [this]; exact ⟨HL1.out, HL2.out⟩
          case measure => simp [intOf]; omega
        · have hl1' : decide ((97 : Int) ≤ (note[k].toNat : Int)) = true := by simp; omega
          have hl2' : decide ((note[k].toNat : Int) ≤ 122) = false := by simp; omega
          clear hl1 hl2
          go_wp2_with fail
          go_round
          case rel => exact ⟨u, k + 1, rfl, by go_num, hlt, by omega, by omega, HUT.out⟩
          case measure => simp [intOf]; omega
      · have hl1' : decide ((97 : Int) ≤ (note[k].toNat : Int)) = false := by simp; omega
        clear hl1
        go_wp2_with fail
        go_round
        case rel => exact ⟨u, k + 1, rfl, by go_num, hlt, by omega, by omega, HUT.out⟩
        case measure => simp [intOf]; omega
    have hrest : decide (k < note.size) = false ∨ (decide (k < note.size) = true ∧ decide ((k : Int) < 20) = false) := by
      by_cases hc : k < note.size
      · exact .inr ⟨by simp; omega, by simp; omega⟩
      · exact .inl (by simp; omega)
    clear hlt
    rcases hrest with hc1 | ⟨hc1, hc2⟩
    all_goals
      go_wp2_with fail
      go_loop [9, 10] (fun x j => ∃ (u2 : ByteArray) (q : Nat), x = .string u2 ∧ j = .int .i64 q ∧ q ≤ (b % 3).toNat ∧ T u2 = blk (q + 1)) (fun _ j => 3 - (intOf j).toNat)
      case atStart => exact ⟨_, 0, rfl, rfl, Nat.zero_le _, rfl⟩
      case round =>
        obtain ⟨u2, q, rfl, rfl, hq, hg⟩ := hrel
        have hu2 : u2.size = q + 1 := by rw [size_T, hg]; simp [blk]
        have HG := hide hg
        clear hg
        have hb3 : 0 ≤ b % 3 ∧ b % 3 ≤ 2 := by omega
        by_cases hql : (q : Int) < b % 3
        · go_wp2_with fail
          go_round
          case rel =>
            refine ⟨_, q + 1, rfl, by go_num, by omega, ?_⟩
            rw [T_app, HG.out, show T (⟨#[32]⟩ : ByteArray) = [32] from rfl]
            simp [blk, List.replicate_succ']
          case measure => simp [intOf]; omega
        have HA := hide (fun W hW => again_any s u2 u (q + 1) W HLEN.out m hW HG.out (by omega) (by omega) (fun x hx => by
          have := HUT.out x hx
          refine ⟨⟨by omega, by omega⟩, ?_⟩
          rintro rfl
          exact absurd this.1 (by decide)) (by omega))
        have HN := hide (fun W hW => anew_any s u2 u (q + 1) W HLEN.out m hW HG.out (by omega) (by omega) (fun x hx => by
          have := HUT.out x hx
          refine ⟨⟨by omega, by omega⟩, ?_, ?_⟩
          · rintro rfl
            exact absurd this.1 (by decide)
          · rintro rfl
            exact absurd this.1 (by decide)) (by omega))
        clear hu2
        go_wp2_with fail
        refine (HA.out _ HM0.out).mono ?_; rintro e1 w1 ⟨rfl, hb1'⟩
        have HM1 := hide (show w1.cell? ⟨0, 0, none⟩ = some (.int .i64 m) by rw [hb1'.cell (p := ⟨0, 0, none⟩) (lt_of_cell HM0.out)]; exact HM0.out)
        have HB1 := hide (below_wide HB0.out hb1')
        clear hb1'
        go_wp2_with fail
        refine (HN.out _ HM1.out).mono ?_; rintro e2 w2 ⟨rfl, hb2'⟩
        have HB2 := hide (below_wide HB1.out hb2')
        clear hb2'
        go_wp2_with fail
        go_ret
        exact ⟨rfl, HB2.out⟩
end Go.Proofs.YtihmmmodimionaaDoor.Lx
