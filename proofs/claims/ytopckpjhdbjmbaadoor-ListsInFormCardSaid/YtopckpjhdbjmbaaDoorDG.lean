/- waymarkref01's numerals: what digits and Number hand back. -/
import Derived.Test.YtopckpjhdbjmbaaDoorA0
import Derived.Test.YtopckpjhdbjmbaaDoorWP
import Derived.Deep.LoopGhost
import Derived.IntWalk
import Derived.Laws.IdiomStrings
import Derived.Outline
namespace Go.Proofs.YtopckpjhdbjmbaaDoor.Lx
open Go.RowKit

def DigOut (n : Nat) (w : World) (e : Ending) (w' : World) : Prop := ∃ r : ByteArray, e = .returned (.string r) ∧ T r = Lib.decDigits n ∧ r.size ≤ 20 ∧ Below w.heap.size w w'
theorem dec_small (u : Nat) (h : u < 10) : Lib.decDigits u = [UInt8.ofNat (48 + u)] := by rw [Lib.decDigits, dif_pos h]
theorem dec_big (u : Nat) (h : ¬ u < 10) : Lib.decDigits u = Lib.decDigits (u / 10) ++ [UInt8.ofNat (48 + u % 10)] := by rw [Lib.decDigits, dif_neg h]

theorem dec_len : ∀ (k u : Nat), 1 ≤ k → u < 10 ^ k → (Lib.decDigits u).length ≤ k := by
  intro k
  induction k with
  | zero => intro u h _; omega
  | succ k ih =>
    intro u _ hu
    by_cases h : u < 10
    · rw [dec_small u h]; simp
    · rw [dec_big u h, List.length_append, List.length_singleton]
      rw [Nat.pow_succ] at hu
      have hk : 1 ≤ k := by
        rcases Nat.eq_zero_or_pos k with rfl | hk
        · simp at hu; omega
        · exact hk
      have := ih (u / 10) hk (by omega)
      omega
theorem T_app2 (a b : ByteArray) : T (a ++ b) = T a ++ T b := by
  obtain ⟨a⟩ := a
  obtain ⟨b⟩ := b
  unfold T
  simp
/-- string([]byte{x}) -/
theorem conv_one (W : World) (x : Int) (h0 : 0 ≤ x) (h1 : x ≤ 255) :
    (convert 97 9 (.slice (some ⟨W.heap.size, 0, none⟩) 1 1)).run Tryd.prog (W.alloc (.cells #[.int .u8 x] 5)) = .ok (.string ⟨#[UInt8.ofNat x.toNat]⟩) (W.alloc (.cells #[.int .u8 x] 5)) := by
  refine run_convert_bytes_back (P := Tryd.prog) _ 97 9 5 ⟨W.heap.size, 0, none⟩ 1 [UInt8.ofNat x.toNat] Tryd.underlying97 Tryd.underlying5 Tryd.underlying9 (fun j hj => ?_)
  have hj0 : j = 0 := by simp at hj; exact hj
  subst hj0
  have e : (⟨W.heap.size, 0, none⟩ : Addr).add 0 = ⟨W.heap.size, 0, none⟩ := by simp [Addr.add]
  rw [e, cell_heap (j := 0) (heap_new W _) rfl]
  congr 2
  simp
  omega

set_option maxRecDepth 100000 in
set_option maxHeartbeats 1000000 in
theorem digits_any (n : Nat) (w : World) (hn : n < 18446744073709551616) :
    Calls Tryd.prog 46 #[.int .u64 n] w (DigOut n w) := by
  have hlen := dec_len 20 n (by omega) (by omega)
  go_enter Tryd.func46, Tryd.ntmps46
  go_wp2_with fail
  go_loopw [0, 3] (fun x y wr => ∃ (m : Nat) (s : ByteArray), x = .int .u64 m ∧ y = .string s ∧ m ≤ n ∧ s.size ≤ 20 ∧ Lib.decDigits n = Lib.decDigits m ++ T s ∧ Below w.heap.size w wr) (fun x _ _ => (intOf x).toNat)
  case atStart => exact ⟨n, _, rfl, rfl, Nat.le_refl _, by decide, by rw [show T (⟨#[]⟩ : ByteArray) = [] from rfl, List.append_nil], Below.refl _ _⟩
  case round =>
    obtain ⟨m, s, rfl, rfl, hm, hs, he, hbel⟩ := hrel
    have HB := hide hbel
    clear hbel
    by_cases h9 : 9 < m
    · have h9' : decide ((9 : Int) < (m : Int)) = true := by simp; omega
      have hc := fun W => conv_one W (48 + (m : Int) % 10) (by omega) (by omega)
      rw [dec_big m (by omega)] at he
      have hl := congrArg List.length he
      rw [List.length_append, List.length_append, List.length_singleton, T_len] at hl
      have HE := hide he
      have HL := hide hl
      clear he hl
      go_wp2_with fail
      refine ⟨⟨m / 10, _, by go_num, rfl, by omega, ?_, ?_, HB.out.alloc HB.out.size _⟩, by simp [intOf]; omega⟩
      · rw [ByteArray.size_append]
        have := HL.out
        show 1 + s.size ≤ 20
        omega
      · rw [T_app2, HE.out, List.append_assoc]
        congr 1
        show [UInt8.ofNat (48 + m % 10)] ++ T s = [48 + UInt8.ofNat (m % 10)] ++ T s
        rw [UInt8.ofNat_add]; rfl
    · have h9' : decide ((9 : Int) < (m : Int)) = false := by simp; omega
      have hc := fun W => conv_one W (48 + (m : Int)) (by omega) (by omega)
      rw [dec_small m (by omega)] at he
      have hl := congrArg List.length he
      rw [List.length_append, List.length_singleton, T_len] at hl
      have HE := hide he
      have HL := hide hl
      clear he hl
      go_wp2_with fail
      go_ret
      refine ⟨_, rfl, ?_, ?_, HB.out.alloc HB.out.size _⟩
      · rw [T_app2, HE.out]
        show [48 + UInt8.ofNat m] ++ T s = [UInt8.ofNat (48 + m)] ++ T s
        rw [UInt8.ofNat_add]; rfl
      · rw [ByteArray.size_append]
        have := HL.out
        show 1 + s.size ≤ 20
        omega

theorem ref_number (n : Nat) (w : World) (hn : n ≤ 9223372036854775807) :
    Calls Tryd.prog 30 #[.int .i64 n] w (DigOut n w) := by
  have HD := hide (fun W => digits_any n W (by omega))
  have h0 : decide ((n : Int) < 0) = false := by simp
  go_enter Tryd.func30, Tryd.ntmps30
  go_wp2_with fail
  refine (HD.out _).mono ?_; rintro e w1 ⟨r, rfl, hr, hs, hb⟩
  go_wp2_with fail
  go_ret
  exact ⟨r, rfl, hr, hs, hb⟩
end Go.Proofs.YtopckpjhdbjmbaaDoor.Lx
