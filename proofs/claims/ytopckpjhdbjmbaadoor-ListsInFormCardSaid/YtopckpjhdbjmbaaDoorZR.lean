/- waymarkref09.Normal, Join: what they hand back. -/
import Derived.Test.YtopckpjhdbjmbaaDoorZS
import Derived.Test.YtopckpjhdbjmbaaDoorZN
import Derived.Test.YtopckpjhdbjmbaaDoorZH
namespace Go.Proofs.YtopckpjhdbjmbaaDoor.Ld
open Go.RowKit Go.Proofs.YtopckpjhdbjmbaaDoor.Lx

theorem allB_iff (p : Nat → Bool) : ∀ k, allB p k = true ↔ ∀ j, j < k → p j = true := by
  intro k
  induction k with
  | zero => simp [allB]
  | succ k ih =>
    rw [allB, Bool.and_eq_true, ih]
    exact ⟨fun h j hj => by rcases Nat.lt_or_ge j k with h' | h'; · exact h.1 j h'
                            · have : j = k := by omega
                              subst this; exact h.2, fun h => ⟨fun j hj => h j (by omega), h k (by omega)⟩⟩
theorem has_list (zs : List Int) (v : Int) : hasB (fun i => zs.getD i 0) zs.length v = decide (v ∈ zs) := by
  unfold hasB hasI
  rw [firstI_all, Bool.eq_iff_iff, Bool.not_eq_true', Bool.eq_false_iff, Ne, allB_iff, decide_eq_true_eq]
  constructor
  · intro h
    refine Decidable.by_contra (fun hn => h (fun j hj => ?_))
    have hj' : zs.getD j 0 = zs[j] := by rw [List.getD_eq_getElem?_getD, List.getElem?_eq_getElem hj]; rfl
    simp only [eqI, Nat.zero_add, hj', Bool.not_eq_true', beq_eq_false_iff_ne]
    exact fun e => hn (e ▸ List.getElem_mem hj)
  · intro h hall
    obtain ⟨j, hj, e⟩ := List.mem_iff_getElem.1 h
    have := hall j hj
    have hj' : zs.getD j 0 = zs[j] := by rw [List.getD_eq_getElem?_getD, List.getElem?_eq_getElem hj]; rfl
    simp only [eqI, Nat.zero_add, hj', Bool.not_eq_true', beq_eq_false_iff_ne] at this
    exact this e.symm

set_option maxHeartbeats 4000000 in
set_option maxRecDepth 100000 in
theorem rnormal_any (A : Option Addr) (n c : Nat) (zs : List Int) (w : World) (hn : n ≤ 1000000000000) (h : Row w A n c zs) :
    Calls Tryd.prog 11 #[.slice A n c] w (UOut (normL zs) w) := by
  have HR := hide h
  have hl : zs.length = n := h.1
  have hi := infoU
  obtain ⟨i1, hi1⟩ : ∃ i, Tryd.prog.info? 23 = some i := by
    cases h : Tryd.prog.info? 23 with
    | none => rw [h] at hi; cases hi
    | some i => exact ⟨i, rfl⟩
  rw [hi1] at hi
  simp only [Option.map_some, Option.some.injEq, Prod.mk.injEq] at hi
  obtain ⟨iz1, is1, ib1⟩ := hi
  clear h
  go_enter Tryd.func11, Tryd.ntmps11
  go_wp2_with fail
  go_loopg [3] (missing zs []) (fun gk v wr => ∃ (os : List Int), Part zs os ∧ missing zs os ≤ gk ∧ wr.ownsRow w.heap.size 23 1 v os.length (os.map encU) ∧ Below w.heap.size w wr)
  case atStart => exact ⟨[], Part.nil _, Nat.le_refl _, ⟨rfl, .inl ⟨rfl, rfl⟩⟩, Below.refl _ _⟩
  case round =>
    obtain ⟨os, hp, hgk, hown, hb⟩ := hrel
    obtain ⟨A', c', rfl, hrow⟩ := Row.own hown
    have hol : os.length ≤ n := by rw [← hl]; exact up_len hp.up hp.sub
    have hhas : ∀ x, Calls Tryd.prog 28 #[.slice A' os.length c', .int .u32 x] wr fun e w' => e = .returned (.bool (decide (x ∈ os))) ∧ wr = w' := fun x => by
      have := has_any A' os.length c' (fun i => os.getD i 0) x wr (by unfold maxLen; omega) hrow.us
      rwa [has_list] at this
    have HH := hide hhas
    have HU := hide (HR.out.below hb).us
    have HP := hide hp
    have HO := hide hown
    have HB := hide hb
    clear hhas hp hown hb hrow
    go_wp2_with fail
    go_loop [4, 5, 6] (fun a4 a5 a6 => ∃ (k : Nat) (f : Bool) (l : Int), k ≤ n ∧ a4 = .bool f ∧ a5 = .int .u32 l ∧ a6 = .int .i64 k ∧ scanM os zs (false, 0) = scanM os (zs.drop k) (f, l)) (fun _ _ a6 => n - (intOf a6).toNat)
    case atStart => exact ⟨0, false, 0, Nat.zero_le _, rfl, rfl, rfl, by rw [List.drop_zero]⟩
    case round =>
      obtain ⟨k, f, l, hk, rfl, rfl, rfl, hsc⟩ := hrel
      by_cases hlt : k < n
      · obtain ⟨bE, off, rfl, h0⟩ := HU.out k hlt
        obtain ⟨x, hx⟩ : ∃ x, x = zs.getD k 0 := ⟨_, rfl⟩
        have hdr : zs.drop k = x :: zs.drop (k + 1) := by
          rw [hx, List.drop_eq_getElem_cons (by omega), List.getD_eq_getElem?_getD, List.getElem?_eq_getElem (by omega)]
          rfl
        have h0' : wr.cell? ⟨bE, off + k, none⟩ = some (.int .u32 x) := by rw [hx]; exact h0
        have HX := HH.out x
        rw [hdr, scanM] at hsc
        clear h0 hx hdr
        cases hm : decide (x ∈ os)
        · rw [hm] at HX hsc
          have HC := hide HX
          clear HX hm
          cases f
          · rw [show (!false && (!(false, l).1 || decide (x < (false, l).2))) = true from rfl, if_pos rfl] at hsc
            have HS := hide hsc
            clear hsc
            go_wp2_with fail
            refine HC.out.mono ?_; rintro e w1 ⟨rfl, rfl⟩
            go_wp2_with fail
            go_round
            case rel => exact ⟨k + 1, true, x, by omega, rfl, rfl, by go_num, HS.out⟩
            case measure => simp [intOf]; omega
          · cases hd : decide (x < l)
            · rw [show (!false && (!(true, l).1 || decide (x < (true, l).2))) = false from by simp [hd], if_neg (by decide)] at hsc
              have HS := hide hsc
              clear hsc
              go_wp2_with fail
              refine HC.out.mono ?_; rintro e w1 ⟨rfl, rfl⟩
              go_wp2_with fail
              go_round
              case rel => exact ⟨k + 1, true, l, by omega, rfl, rfl, by go_num, HS.out⟩
              case measure => simp [intOf]; omega
            · rw [show (!false && (!(true, l).1 || decide (x < (true, l).2))) = true from by simp [hd], if_pos rfl] at hsc
              have HS := hide hsc
              clear hsc
              go_wp2_with fail
              refine HC.out.mono ?_; rintro e w1 ⟨rfl, rfl⟩
              go_wp2_with fail
              go_round
              case rel => exact ⟨k + 1, true, x, by omega, rfl, rfl, by go_num, HS.out⟩
              case measure => simp [intOf]; omega
        · rw [hm] at HX hsc
          rw [show (!true && (!(f, l).1 || decide (x < (f, l).2))) = false from rfl, if_neg (by decide)] at hsc
          have HC := hide HX
          have HS := hide hsc
          clear HX hm hsc
          go_wp2_with fail
          refine HC.out.mono ?_; rintro e w1 ⟨rfl, rfl⟩
          go_wp2_with fail
          go_round
          case rel => exact ⟨k + 1, f, l, by omega, rfl, rfl, by go_num, HS.out⟩
          case measure => simp [intOf]; omega
      · rw [List.drop_eq_nil_of_le (by omega), scanM] at hsc
        cases f
        · have HE := hide (HP.out.done hsc)
          clear hsc
          go_wp2_with fail
          go_ret
          exact ⟨_, rfl, by rw [← HE.out]; exact HO.out, HB.out⟩
        · have HM := hide (HP.out.more hsc)
          have HL := hide (missing_less hsc)
          have hol2 : (os ++ [l]).length ≤ n := by rw [← hl]; exact up_len HM.out.up HM.out.sub
          rw [List.length_append, List.length_singleton] at hol2
          clear hsc
          have HOWN2 := hide (HO.out.alloc (Obj.cells #[.int .u32 l] 23))
          go_wp2_with (at_builtin; (refine wpList_append_own _ rfl (.tmp 39) (.tmp 41) 22 rfl w.heap.size 23 i1 _ 1 4 Tryd.underlying22 hi1 iz1 is1 ib1 rfl (by decide) _ os.length (os.map encU) rfl HOWN2.out ⟨wr.heap.size, 0, none⟩ 1 1 [.int .u32 l] rfl rfl ?cells ?ones ?c63 ?cby ?cbase ?_))
          case ones => simp [Value.oneCell']
          case c63 => unfold maxLen; omega
          case cby => omega
          case cbase => have := HB.out.size; simp; omega
          intro v' w5 hown' hgrow _
          have HGR := hide hgrow
          have HOW := hide hown'
          clear hgrow hown'
          obtain ⟨A5, c5, rfl⟩ := own_slice HOW.out
          go_wp2_with fail
          go_roundg (missing zs (os ++ [l]))
          case measure => have := HL.out; omega
          case rel =>
            refine ⟨os ++ [l], HM.out, Nat.le_refl _, ?_, ?_⟩
            · have := HOW.out
              rw [List.length_append, List.length_singleton, List.map_append]
              exact this
            · exact (HB.out.alloc HB.out.size _).grown HGR.out (by have := HB.out.size; simp; omega) (fun k hk => (HOWN2.out.lt _ hk).1)
end Go.Proofs.YtopckpjhdbjmbaaDoor.Ld
