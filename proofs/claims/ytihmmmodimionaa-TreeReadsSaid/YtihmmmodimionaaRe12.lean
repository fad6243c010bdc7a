/- What the claim leans on, part 12 of 14: R S WB VF WA. -/
import Derived.Test.YtihmmmodimionaaRe01
import Derived.Test.YtihmmmodimionaaRe02
import Derived.Test.YtihmmmodimionaaRe03
import Derived.Test.YtihmmmodimionaaRe04
import Derived.Test.YtihmmmodimionaaRe05
import Derived.Test.YtihmmmodimionaaRe06
import Derived.Test.YtihmmmodimionaaRe07
import Derived.Test.YtihmmmodimionaaRe08
import Derived.Test.YtihmmmodimionaaRe09
import Derived.Test.YtihmmmodimionaaRe10
import Derived.Test.YtihmmmodimionaaRe11
namespace Go.Proofs.Ytihmmmodimionaa.Lx
open Go.RowKit

theorem infoRef : (Try.prog.info? 75).map (fun i => (i.zero, i.size, i.bytes)) = some (some (.agg #[.int .u8 0, .string { data := #[] }, .int .i64 0, .int .i64 0]), 4, 40) := by kernel_rfl

/-- what the document's Tokens hands back -/
def RefOut (ts : List Tok) (p : Int × Int × Int) (w : World) (e : Ending) (w' : World) : Prop :=
  ∃ (v : Value) (bs : List BTok), bs.map BTok.tok = ts ∧ e = .returned (.tuple #[v, .agg #[.int .i64 p.1, .int .i64 p.2.1], .int .i64 p.2.2]) ∧ w'.ownsRow w.heap.size 75 4 v bs.length (bs.flatMap BTok.cells) ∧ Below w.heap.size w w' ∧ bs.length ≤ 65536
/-- what is left to cut from byte i on -/
def Left (s : ByteArray) (i : Nat) (d : List Tok) : Prop :=
  ∃ f, ((T s).drop i).length ≤ f ∧ toks (T s).length (T s) 1 1 = appT d (toks f ((T s).drop i) (adv ((T s).take i) 1 1).1 (adv ((T s).take i) 1 1).2)
theorem left_more {s : ByteArray} {i : Nat} {d : List Tok} (h : Left s i d) (hi : i < s.size) {is : Bool} {k : Int} {t : List UInt8} {n : Nat} (hst : step ((T s).drop i) = ⟨false, is, k, t, n⟩) :
    1 ≤ n ∧ i + n ≤ s.size ∧ Left s (i + n) (d ++ (if is then [⟨k, t, (adv ((T s).take i) 1 1).1, (adv ((T s).take i) 1 1).2⟩] else [])) := by
  obtain ⟨f, hf, he⟩ := h
  have hne : (T s).drop i ≠ [] := by rw [T_drop s i hi]; simp
  have hn := step_n _ hne (by rw [hst])
  obtain ⟨f', h1, h2⟩ := toks_more hf hne he (by rw [hst]) hn.1
  rw [hst] at hn h1 h2
  simp only at hn h1 h2
  rw [List.length_drop, T_len] at hn
  refine ⟨hn.1, by omega, f', ?_, ?_⟩
  · rw [List.drop_drop] at h1; exact h1
  · rw [h2, List.drop_drop, List.take_add, adv_append]
theorem left_err {s : ByteArray} {i : Nat} {d : List Tok} (h : Left s i d) (hc : (chk (T s)).2.2 = 0) (hi : i < s.size) (hst : (step ((T s).drop i)).err = true) : tokRes (T s) = ([], (adv ((T s).take i) 1 1).1, (adv ((T s).take i) 1 1).2, 71) := by
  obtain ⟨f, hf, he⟩ := h
  have hne : (T s).drop i ≠ [] := by rw [T_drop s i hi]; simp
  exact tokRes_err hc (toks_err hf hne he hst)
theorem left_end {s : ByteArray} {i : Nat} {d : List Tok} (h : Left s i d) (hc : (chk (T s)).2.2 = 0) (hi : ¬ i < s.size) : tokRes (T s) = (d, 0, 0, 0) := by
  obtain ⟨f, hf, he⟩ := h
  rw [List.drop_eq_nil_of_le (by rw [T_len]; omega), toks_nil] at he
  have := tokRes_ok hc he
  simpa using this
/-- what stands at the head of each round -/
structure RL (s : ByteArray) (w : World) (v : Value) (wr : World) (i : Nat) (bs : List BTok) : Prop where
  le : i ≤ s.size
  len : bs.length + (s.size - i) ≤ 65536
  own : wr.ownsRow w.heap.size 75 4 v bs.length (bs.flatMap BTok.cells)
  p : PosR wr w.heap.size 0 0
  bel : Below w.heap.size w wr
  eq : Left s i (bs.map BTok.tok)

set_option maxRecDepth 100000 in
set_option maxHeartbeats 4000000 in
theorem ref_ok (s : ByteArray) (w : World) (hs : (chk (T s)).2.2 = 0) :
    Calls Try.prog 9 #[.string s] w (RefOut (tokRes (T s)).1 (tokRes (T s)).2 w) := by
  have hlen := chk_len hs
  rw [T_len] at hlen
  have hc := fun o => ref_check s (w.alloc o) (by unfold maxLen; omega)
  simp only [hs] at hc
  have HC := hide hc
  have HS := hide hs
  clear hc hs
  go_enter Try.func9, Try.ntmps9
  go_wp2_with fail
  refine (HC.out _).mono ?_; rintro e w1 ⟨rfl, hb1⟩
  have hp1 : PosR w1 w.heap.size 0 0 := heapB hb1 (heap_new w _)
  have hbw : Below w.heap.size w w1 := below_wide (bel_one _ _) hb1
  go_wp2_with fail
  have HRL : Hid (RL s w (.slice none 0 0) (w1.alloc (Obj.cells #[.int .i64 (chk (T s)).1, .int .i64 (chk (T s)).2.1] 24)) 0 []) := by
    exact ⟨Nat.zero_le _, by simpa using hlen, World.ownsRow_nil _ _ _ _, heap_old hp1, below_wide hbw (bel_one w1 _), _, Nat.le_refl _, (appT_nil _).symm⟩
  clear hp1 hbw hb1 HC
  generalize (w1.alloc (Obj.cells #[.int .i64 (chk (T s)).1, .int .i64 (chk (T s)).2.1] 24)) = w2 at *
  go_loopw [7, 8] (fun v j wr => ∃ i bs, j = .int .i64 (i : Nat) ∧ RL s w v wr i bs) (fun _ j _ => s.size - (intOf j).toNat)
  case atStart => exact ⟨0, [], rfl, HRL.out⟩
  case round =>
    clear HRL
    obtain ⟨i, bs, rfl, hrl⟩ := hrel
    have hle := hrl.le
    have hbl := hrl.len
    have p0 := cell_heap (j := 0) hrl.p rfl
    have p1 := cell_heap (j := 1) hrl.p rfl
    have fp0 := frozen_heap (j := 0) hrl.p
    have fp1 := frozen_heap (j := 1) hrl.p
    have HT := hide hrl
    clear hrl
    by_cases hi : i < s.size
    case neg =>
      have HR := hide (left_end HT.out.eq HS.out hi)
      go_wp2_with fail
      refine bodyPost_ret (v := .tuple #[u7, .agg #[.int .i64 0, .int .i64 0], .int .i64 0]) (by simp [results, Try.results9, go_sem, p0, p1]) rfl ?_
      rw [HR.out]
      have hpos := own_ne_row HT.out.own HT.out.p (by decide)
      exact ⟨_, bs, rfl, rfl, ownsRow_setCell_other (ownsRow_setCell_other HT.out.own hpos _) hpos _, ((HT.out.bel.setCell (p := ⟨w.heap.size, 0, none⟩) (Nat.le_refl _) _).setCell (p := ⟨w.heap.size, 1, none⟩) (Nat.le_refl _) _), by have := HT.out.len; omega⟩
    have hs : step ((T s).drop i) = step ((T s).drop i) := rfl
    conv at hs => rhs; unfold step; rw [show ((T s).drop i).headD 0 = s[i] by rw [T_drop s i hi]; rfl]
    have e32 : s[i] = 32 ↔ (s[i].toNat : Int) = 32 := u8_int s[i] 32 (by omega)
    have e10 : s[i] = 10 ↔ (s[i].toNat : Int) = 10 := u8_int s[i] 10 (by omega)
    have e35 : s[i] = 35 ↔ (s[i].toNat : Int) = 35 := u8_int s[i] 35 (by omega)
    have e34 : s[i] = 34 ↔ (s[i].toNat : Int) = 34 := u8_int s[i] 34 (by omega)
    simp only [e32, e10, e35, e34] at hs
    clear e32 e10 e35 e34
    by_cases h1 : (s[i].toNat : Int) = 32
    · rw [if_pos (.inl h1)] at hs
      obtain ⟨hn1, hn2, hl⟩ := left_more HT.out.eq hi hs
      have h1' := beq_it h1
      have HL := hide hl
      clear hs hl
      go_wp2_with fail
      go_roundw
      case rel => exact ⟨i + 1, bs, by go_num, by omega, by omega, HT.out.own, HT.out.p, HT.out.bel, by simpa using HL.out⟩
      case measure => simp [intOf]; omega
    have h1' := beq_if h1
    by_cases h2 : (s[i].toNat : Int) = 10
    · rw [if_pos (.inr h2)] at hs
      obtain ⟨hn1, hn2, hl⟩ := left_more HT.out.eq hi hs
      have h2' := beq_it h2
      have hor : ¬ (((s[i].toNat : Int) == 32) = false ∧ ((s[i].toNat : Int) == 10) = false) := fun h => by rw [h2'] at h; exact Bool.noConfusion h.2
      have HL := hide hl
      clear hs hl
      go_wp2_with fail
      go_roundw
      case rel => exact ⟨i + 1, bs, by go_num, by omega, by omega, HT.out.own, HT.out.p, HT.out.bel, by simpa using HL.out⟩
      case measure => simp [intOf]; omega
    rw [if_neg (fun h => h.elim h1 h2)] at hs
    have h2' := beq_if h2
    have hor : ¬ (((s[i].toNat : Int) == 32) = true ∨ ((s[i].toNat : Int) == 10) = true) := fun h => h.elim (fun h => by rw [h1'] at h; exact Bool.noConfusion h) (fun h => by rw [h2'] at h; exact Bool.noConfusion h)
    by_cases h3 : (s[i].toNat : Int) = 35
    · rw [if_pos h3] at hs
      obtain ⟨hn1, hn2, hl⟩ := left_more HT.out.eq hi hs
      have h3' := beq_it h3
      have HL := hide hl
      clear hs hl h1 h2 h3
      go_wp2_with fail
      go_loop [8] (fun j => ∃ k : Nat, i ≤ k ∧ k ≤ s.size ∧ j = .int .i64 k ∧ i + firstN is10 ((T s).drop i) = k + firstN is10 ((T s).drop k)) (fun j => s.size - (intOf j).toNat)
      case atStart => exact ⟨i, Nat.le_refl _, hle, rfl, rfl⟩
      case round =>
        obtain ⟨k, hik, hk, rfl, hf⟩ := hrel
        have HF := hide hf
        clear hf
        by_cases hlt : k < s.size
        · have HN := hide (firstN_at is10 s k hlt)
          have HX := hide (is10_at s k hlt)
          by_cases hx : (s[k].toNat : Int) = 10
          · have hx' := beq_it hx
            go_wp2_with fail
            have he : i + firstN is10 ((T s).drop i) = k := by rw [HF.out, HN.out, HX.out, hx']; simp
            have hl := HL.out
            rw [he] at hl hn2
            have hne : i < k := by omega
            exact ⟨⟨k, bs, rfl, hk, by omega, HT.out.own, HT.out.p, HT.out.bel, by simpa using hl⟩, by simp [intOf]; omega⟩
          · have hx' := beq_if hx
            go_wp2_with fail
            go_round
            case rel => exact ⟨k + 1, by omega, by omega, by go_num, by rw [HF.out, HN.out, HX.out, hx']; simp; omega⟩
            case measure => simp [intOf]; omega
        · go_wp2_with fail
          have he : i + firstN is10 ((T s).drop i) = k := by rw [HF.out, List.drop_eq_nil_of_le (by rw [T_len]; omega)]; simp [firstN]
          have hl := HL.out
          rw [he] at hl hn2
          have hne : i < k := by omega
          exact ⟨⟨k, bs, rfl, hk, by omega, HT.out.own, HT.out.p, HT.out.bel, by simpa using hl⟩, by simp [intOf]; omega⟩
    rw [if_neg h3] at hs
    have h3' := beq_if h3
    have hbg := beg_at s i hi
    have HBEG := hide (fun W => begins_any s i W hi hlen)
    have HAT := hide (fun W => at_any s i W hle hlen)
    cases hp : Lib.hasPrefix ((T s).drop i) [47, 42]
    case true =>
      rw [if_pos hp] at hs
      rw [hp] at hbg HBEG
      have hi2 : i + 1 < s.size := by
        rcases Nat.lt_or_ge (i + 1) s.size with h | h
        · exact h
        · rw [dif_neg (by omega), Bool.and_false] at hbg; cases hbg
      rw [dif_pos hi2] at hbg
      have h47 : (s[i].toNat : Int) = 47 := by
        cases hq : ((s[i].toNat : Int) == 47) with
        | true => exact beq_t hq
        | false => rw [hq] at hbg; cases hbg
      have h34 : ¬ (s[i].toNat : Int) = 34 := by omega
      have h34' := beq_if h34
      have hcl := fun W => closed_c s i W hi2 hlen h34
      rw [List.drop_drop] at hs
      simp only [clC_eq] at hcl
      by_cases h4 : Lib.index ((T s).drop (i + 2)) [42, 47] < 0
      · rw [if_pos h4] at hs
        simp only [if_pos h4] at hcl
        have HR := hide (left_err HT.out.eq HS.out hi (by rw [hs]))
        have HCL := hide hcl
        clear hs hcl h1 h2 h3 hbg h47 h34 hp h4
        go_wp2_with fail
        refine (HBEG.out _).mono ?_; rintro e w3 ⟨rfl, rfl⟩
        go_wp2_with fail
        refine (HCL.out _).mono ?_; rintro e w3 ⟨rfl, rfl⟩
        go_wp2_with fail
        refine (HAT.out _).mono ?_; rintro e w3 ⟨rfl, hb3⟩
        have hbel3 : Below w.heap.size w w3 := below_wide HT.out.bel hb3
        have hpp3 : PosR w3 w.heap.size 0 0 := heapB hb3 HT.out.p
        have p0 := cell_heap (j := 0) hpp3 rfl
        have p1 := cell_heap (j := 1) hpp3 rfl
        have fp0 := frozen_heap (j := 0) hpp3
        have fp1 := frozen_heap (j := 1) hpp3
        have HB3 := hide hbel3
        clear hbel3 hpp3 hb3
        go_wp2_with fail
        refine bodyPost_ret (v := .tuple #[.slice none 0 0, .agg #[.int .i64 (adv ((T s).take i) 1 1).1, .int .i64 (adv ((T s).take i) 1 1).2], .int .i64 71]) (by simp [results, Try.results9, go_sem, p0, p1]) rfl ?_
        rw [HR.out]
        exact ⟨_, [], rfl, rfl, World.ownsRow_nil _ _ _ _, ((HB3.out.setCell (p := ⟨w.heap.size, 0, none⟩) (Nat.le_refl _) _).setCell (p := ⟨w.heap.size, 1, none⟩) (Nat.le_refl _) _), by simp⟩
      · rw [if_neg h4] at hs
        simp only [if_neg h4] at hcl
        have hn : (i : Int) + 2 + Lib.index ((T s).drop (i + 2)) [42, 47] + 2 = ((i + ((Lib.index ((T s).drop (i + 2)) [42, 47]).toNat + 4) : Nat) : Int) := by omega
        simp only [hn] at hcl
        obtain ⟨hn1, hn2, hl⟩ := left_more HT.out.eq hi hs
        clear hn h4
        generalize (Lib.index ((T s).drop (i + 2)) [42, 47]).toNat + 4 = n at *
        have HCL := hide hcl
        have HL := hide hl
        clear hs hcl h1 h2 h3 hbg h47 h34 hp hl
        go_wp2_with fail
        refine (HBEG.out _).mono ?_; rintro e w3 ⟨rfl, rfl⟩
        go_wp2_with fail
        refine (HCL.out _).mono ?_; rintro e w3 ⟨rfl, rfl⟩
        go_wp2_with fail
        exact ⟨⟨i + n, bs, rfl, hn2, by omega, HT.out.own, HT.out.p, HT.out.bel, by simpa using HL.out⟩, by simp [intOf]; omega⟩
    rw [if_neg (by rw [hp]; decide)] at hs
    rw [hp] at HBEG
    clear hbg
    by_cases h4 : (s[i].toNat : Int) = 34
    · rw [if_pos h4] at hs
      have h4' := beq_it h4
      have hcl := fun W => closed_q s i W hi hlen h4
      simp only [cl34_eq] at hcl
      rw [List.drop_drop] at hs
      have hge : ((T s).drop i).getD ((Lib.indexAny ((T s).drop (i + 1)) [34, 10]).toNat + 1) 0 = ((T s).drop (i + 1)).getD (Lib.indexAny ((T s).drop (i + 1)) [34, 10]).toNat 0 := by
        simp only [List.getD_eq_getElem?_getD, List.getElem?_drop]
        congr 2
        omega
      rw [hge] at hs
      by_cases h5 : Lib.indexAny ((T s).drop (i + 1)) [34, 10] < 0 ∨ ((T s).drop (i + 1)).getD (Lib.indexAny ((T s).drop (i + 1)) [34, 10]).toNat 0 = 10
      · rw [if_pos h5] at hs
        simp only [if_pos h5] at hcl
        have HR := hide (left_err HT.out.eq HS.out hi (by rw [hs]))
        have HCL := hide hcl
        clear hs hcl h1 h2 h3 hp h4 h5 hge
        go_wp2_with fail
        refine (HBEG.out _).mono ?_; rintro e w3 ⟨rfl, rfl⟩
        go_wp2_with fail
        refine (HCL.out _).mono ?_; rintro e w3 ⟨rfl, rfl⟩
        go_wp2_with fail
        refine (HAT.out _).mono ?_; rintro e w3 ⟨rfl, hb3⟩
        have hbel3 : Below w.heap.size w w3 := below_wide HT.out.bel hb3
        have hpp3 : PosR w3 w.heap.size 0 0 := heapB hb3 HT.out.p
        have p0 := cell_heap (j := 0) hpp3 rfl
        have p1 := cell_heap (j := 1) hpp3 rfl
        have fp0 := frozen_heap (j := 0) hpp3
        have fp1 := frozen_heap (j := 1) hpp3
        have HB3 := hide hbel3
        clear hbel3 hpp3 hb3
        go_wp2_with fail
        refine bodyPost_ret (v := .tuple #[.slice none 0 0, .agg #[.int .i64 (adv ((T s).take i) 1 1).1, .int .i64 (adv ((T s).take i) 1 1).2], .int .i64 71]) (by simp [results, Try.results9, go_sem, p0, p1]) rfl ?_
        rw [HR.out]
        exact ⟨_, [], rfl, rfl, World.ownsRow_nil _ _ _ _, ((HB3.out.setCell (p := ⟨w.heap.size, 0, none⟩) (Nat.le_refl _) _).setCell (p := ⟨w.heap.size, 1, none⟩) (Nat.le_refl _) _), by simp⟩
      · rw [if_neg h5] at hs
        simp only [if_neg h5] at hcl
        have h6 : ¬ Lib.indexAny ((T s).drop (i + 1)) [34, 10] < 0 := fun h => h5 (.inl h)
        have hn : (i : Int) + 1 + Lib.indexAny ((T s).drop (i + 1)) [34, 10] + 1 = ((i + ((Lib.indexAny ((T s).drop (i + 1)) [34, 10]).toNat + 2) : Nat) : Int) := by omega
        simp only [hn] at hcl
        obtain ⟨hn1, hn2, hl⟩ := left_more HT.out.eq hi hs
        have htb : T (s.extract (i + 1) (i + ((Lib.indexAny ((T s).drop (i + 1)) [34, 10]).toNat + 2) - 1)) = ((T s).drop (i + 1)).take (Lib.indexAny ((T s).drop (i + 1)) [34, 10]).toNat := by
          rw [T_extract, List.drop_take]
          congr 1
          omega
        rw [← htb] at hl
        clear hn h5 h6 htb hge
        generalize (Lib.indexAny ((T s).drop (i + 1)) [34, 10]).toNat = n at *
        have HCL := hide hcl
        have HL := hide hl
        clear hs hcl h1 h2 h3 hp hl h4
        go_wp2_with fail
        refine (HBEG.out _).mono ?_; rintro e w3 ⟨rfl, rfl⟩
        go_wp2_with fail
        refine (HCL.out _).mono ?_; rintro e w3 ⟨rfl, rfl⟩
        go_wp2_with fail
        refine wp_region_taken [0, 1, 2, 3, 4, 5, 6, 7, 8] [9, 10, 11, 12, 13] (by kernel_rfl) (by kernel_rfl) (by kernel_rfl) (by kernel_rfl) (.cons (.zero) (.cons (.succ (.zero)) (.cons (.succ (.succ (.zero))) (.cons (.succ (.succ (.succ (.zero)))) (.cons (.succ (.succ (.succ (.succ (.zero))))) (.cons (.succ (.succ (.succ (.succ (.succ (.zero)))))) (.cons (.succ (.succ (.succ (.succ (.succ (.succ (.zero))))))) (.cons (.succ (.succ (.succ (.succ (.succ (.succ (.succ (.zero)))))))) (.cons (.succ (.succ (.succ (.succ (.succ (.succ (.succ (.succ (.zero))))))))) .nil))))))))) (.cons (.succ (.succ (.succ (.succ (.succ (.succ (.succ (.succ (.succ (.zero)))))))))) (.cons (.succ (.succ (.succ (.succ (.succ (.succ (.succ (.succ (.succ (.succ (.zero))))))))))) (.cons (.succ (.succ (.succ (.succ (.succ (.succ (.succ (.succ (.succ (.succ (.succ (.zero)))))))))))) (.cons (.succ (.succ (.succ (.succ (.succ (.succ (.succ (.succ (.succ (.succ (.succ (.succ (.zero))))))))))))) (.cons (.succ (.succ (.succ (.succ (.succ (.succ (.succ (.succ (.succ (.succ (.succ (.succ (.succ (.zero)))))))))))))) .nil))))) (fun _ _ _ _ _ h => h) ?_
        repeat (first | go_big_quiet_step ((fail)) | quiet_step ((fail)))
        refine wpQuiet_nil ?_
        go_wp2_with fail
        refine (HAT.out _).mono ?_; rintro e w3 ⟨rfl, hb3⟩
        have hown3 := own_below HT.out.own.drew hb3
        have hbel3 : Below w.heap.size w w3 := below_wide HT.out.bel.drew hb3
        have hpp3 : PosR w3 w.heap.size 0 0 := heapB hb3 HT.out.p
        have HO3 := hide hown3
        have HB3 := hide hbel3
        have HP3 := hide hpp3
        clear hown3 hbel3 hpp3 hb3
        generalize hgl : (adv ((T s).take i) 1 1).1 = l at *
        generalize hgc : (adv ((T s).take i) 1 1).2 = c at *
        obtain ⟨i1, hi1, iz1, is1, ib1⟩ := info_parts infoRef
        have HOWN2 := hide (HO3.out.alloc (Obj.cells #[.int .u8 (1), .string (s.extract (i + 1) (i + (n + 2) - 1)), .int .i64 l, .int .i64 c] 75))
        go_wp2_with (at_builtin; (refine wpList_append_own _ rfl (.tmp 73) (.tmp 84) 28 rfl w.heap.size 75 i1 _ 4 40 Try.underlying28 hi1 iz1 is1 ib1 rfl (by decide) _ bs.length (bs.flatMap BTok.cells) rfl HOWN2.out ⟨w3.heap.size, 0, none⟩ 1 1 [.int .u8 (1), .string (s.extract (i + 1) (i + (n + 2) - 1)), .int .i64 l, .int .i64 c] rfl rfl ?cells ?ones ?c63 ?cby ?cbase ?_))
        case cells =>
          intro j u hj
          match j, hj with
          | 0, hj => simp at hj; subst hj; simp [Addr.add, go_sem]
          | 1, hj => simp at hj; subst hj; simp [Addr.add, go_sem]
          | 2, hj => simp at hj; subst hj; simp [Addr.add, go_sem]
          | 3, hj => simp at hj; subst hj; simp [Addr.add, go_sem]
          | j + 4, hj => simp at hj
        case ones => simp [Value.oneCell']
        case c63 => unfold maxLen; omega
        case cby => omega
        case cbase => have := HB3.out.size; simp; omega
        intro v' w4 hown' hgrow _
        have HGR := hide hgrow
        have HOW := hide hown'
        clear hgrow hown'
        go_wp2_with fail
        have hsz3 := HB3.out.size
        have hp1 : PosR (w3.alloc (Obj.cells #[.int .u8 (1), .string (s.extract (i + 1) (i + (n + 2) - 1)), .int .i64 l, .int .i64 c] 75)) w.heap.size 0 0 := heap_old HP3.out
        have hrl' : RL s w v' w4 (i + (n + 2)) (bs ++ [⟨1, (s.extract (i + 1) (i + (n + 2) - 1)), l, c⟩]) := by
          refine ⟨hn2, by simp; omega, ?_, heap_grown hp1 HGR.out (own_ne_row HOWN2.out hp1 (by decide)), (HB3.out.alloc hsz3 _).grown HGR.out (by simp; omega) (fun k' hk' => (HOWN2.out.lt k' hk').1), ?_⟩
          · have := HOW.out
            simpa [BTok.cells] using this
          · have := HL.out
            simpa [BTok.tok] using this
        exact ⟨⟨i + (n + 2), _, rfl, hrl'⟩, by simp [intOf]; omega⟩
    rw [if_neg h4] at hs
    have h4' := beq_if h4
    have HSG := hide (fun W => sign_any s[i] W)
    by_cases h5 : (0 : Int) ≤ Lib.indexByte signs s[i]
    · rw [if_pos h5] at hs
      have hk : sgn s[i] = 2 + Lib.indexByte signs s[i] := by unfold sgn; rw [if_pos h5]
      have hpos : 0 < sgn s[i] := by omega
      rw [← hk] at hs
      obtain ⟨hn1, hn2, hl⟩ := left_more HT.out.eq hi hs
      have htb : T (s.extract i (i + 1)) = ((T s).drop i).take 1 := by
        rw [T_extract, List.drop_take]
        congr 1
        omega
      rw [← htb] at hl
      clear htb hk h5
      generalize sgn s[i] = g at *
      have HL := hide hl
      clear hs h1 h2 h3 h4 hp hl
      go_wp2_with fail
      refine (HBEG.out _).mono ?_; rintro e w3 ⟨rfl, rfl⟩
      go_wp2_with fail
      refine (HSG.out _).mono ?_; rintro e w3 ⟨rfl, rfl⟩
      go_wp2_with fail
      refine wp_region_taken [0, 1, 2, 3, 5, 6, 7, 8, 9, 10, 11] [4, 12, 13, 14, 15, 16] (by kernel_rfl) (by kernel_rfl) (by kernel_rfl) (by kernel_rfl) (.cons (.zero) (.cons (.succ (.zero)) (.cons (.succ (.succ (.zero))) (.cons (.succ (.succ (.succ (.zero)))) (.cons (.succ (.succ (.succ (.succ (.succ (.zero)))))) (.cons (.succ (.succ (.succ (.succ (.succ (.succ (.zero))))))) (.cons (.succ (.succ (.succ (.succ (.succ (.succ (.succ (.zero)))))))) (.cons (.succ (.succ (.succ (.succ (.succ (.succ (.succ (.succ (.zero))))))))) (.cons (.succ (.succ (.succ (.succ (.succ (.succ (.succ (.succ (.succ (.zero)))))))))) (.cons (.succ (.succ (.succ (.succ (.succ (.succ (.succ (.succ (.succ (.succ (.zero))))))))))) (.cons (.succ (.succ (.succ (.succ (.succ (.succ (.succ (.succ (.succ (.succ (.succ (.zero)))))))))))) .nil))))))))))) (.cons (.succ (.succ (.succ (.succ (.zero))))) (.cons (.succ (.succ (.succ (.succ (.succ (.succ (.succ (.succ (.succ (.succ (.succ (.succ (.zero))))))))))))) (.cons (.succ (.succ (.succ (.succ (.succ (.succ (.succ (.succ (.succ (.succ (.succ (.succ (.succ (.zero)))))))))))))) (.cons (.succ (.succ (.succ (.succ (.succ (.succ (.succ (.succ (.succ (.succ (.succ (.succ (.succ (.succ (.zero))))))))))))))) (.cons (.succ (.succ (.succ (.succ (.succ (.succ (.succ (.succ (.succ (.succ (.succ (.succ (.succ (.succ (.succ (.zero)))))))))))))))) (.cons (.succ (.succ (.succ (.succ (.succ (.succ (.succ (.succ (.succ (.succ (.succ (.succ (.succ (.succ (.succ (.succ (.zero))))))))))))))))) .nil)))))) (fun _ _ _ _ _ h => h) ?_
      repeat (first | go_big_quiet_step ((fail)) | quiet_step ((fail)))
      refine wpQuiet_nil ?_
      go_wp2_with fail
      refine (HSG.out _).mono ?_; rintro e w3 ⟨rfl, rfl⟩
      go_wp2_with fail
      refine (HAT.out _).mono ?_; rintro e w3 ⟨rfl, hb3⟩
      have hown3 := own_below HT.out.own.drew hb3
      have hbel3 : Below w.heap.size w w3 := below_wide HT.out.bel.drew hb3
      have hpp3 : PosR w3 w.heap.size 0 0 := heapB hb3 HT.out.p
      have HO3 := hide hown3
      have HB3 := hide hbel3
      have HP3 := hide hpp3
      clear hown3 hbel3 hpp3 hb3
      generalize hgl : (adv ((T s).take i) 1 1).1 = l at *
      generalize hgc : (adv ((T s).take i) 1 1).2 = c at *
      obtain ⟨i1, hi1, iz1, is1, ib1⟩ := info_parts infoRef
      have HOWN2 := hide (HO3.out.alloc (Obj.cells #[.int .u8 (g), .string (s.extract i (i + 1)), .int .i64 l, .int .i64 c] 75))
      go_wp2_with (at_builtin; (refine wpList_append_own _ rfl (.tmp 92) (.tmp 106) 28 rfl w.heap.size 75 i1 _ 4 40 Try.underlying28 hi1 iz1 is1 ib1 rfl (by decide) _ bs.length (bs.flatMap BTok.cells) rfl HOWN2.out ⟨w3.heap.size, 0, none⟩ 1 1 [.int .u8 (g), .string (s.extract i (i + 1)), .int .i64 l, .int .i64 c] rfl rfl ?cells ?ones ?c63 ?cby ?cbase ?_))
      case cells =>
        intro j u hj
        match j, hj with
        | 0, hj => simp at hj; subst hj; simp [Addr.add, go_sem]
        | 1, hj => simp at hj; subst hj; simp [Addr.add, go_sem]
        | 2, hj => simp at hj; subst hj; simp [Addr.add, go_sem]
        | 3, hj => simp at hj; subst hj; simp [Addr.add, go_sem]
        | j + 4, hj => simp at hj
      case ones => simp [Value.oneCell']
      case c63 => unfold maxLen; omega
      case cby => omega
      case cbase => have := HB3.out.size; simp; omega
      intro v' w4 hown' hgrow _
      have HGR := hide hgrow
      have HOW := hide hown'
      clear hgrow hown'
      go_wp2_with fail
      have hsz3 := HB3.out.size
      have hp1 : PosR (w3.alloc (Obj.cells #[.int .u8 (g), .string (s.extract i (i + 1)), .int .i64 l, .int .i64 c] 75)) w.heap.size 0 0 := heap_old HP3.out
      have hrl' : RL s w v' w4 (i + 1) (bs ++ [⟨g, (s.extract i (i + 1)), l, c⟩]) := by
        refine ⟨hn2, by simp; omega, ?_, heap_grown hp1 HGR.out (own_ne_row HOWN2.out hp1 (by decide)), (HB3.out.alloc hsz3 _).grown HGR.out (by simp; omega) (fun k' hk' => (HOWN2.out.lt k' hk').1), ?_⟩
        · have := HOW.out
          simpa [BTok.cells] using this
        · have := HL.out
          simpa [BTok.tok] using this
      exact ⟨⟨i + 1, _, by go_num, hrl'⟩, by simp [intOf]; omega⟩
    rw [if_neg h5] at hs
    have hz : sgn s[i] = 0 := by unfold sgn; rw [if_neg h5]
    rw [hz] at HSG
    obtain ⟨hn1, hn2, hl⟩ := left_more HT.out.eq hi hs
    have HL := hide hl
    clear hs hz h5 h1 h2 h3 h4 hp hl
    go_wp2_with fail
    refine (HBEG.out _).mono ?_; rintro e w3 ⟨rfl, rfl⟩
    go_wp2_with fail
    refine (HSG.out _).mono ?_; rintro e w3 ⟨rfl, rfl⟩
    go_wp2_with fail
    rename_i K aK
    have key : ∀ (k : Nat) (x111 x112 x113 x114 x115 x116 x117 x118 x119 x120 x121 x122 x123 x124 x125 x126 x127 x128 x129 x130 x131 x132 x133 x134 x135 x136 x137 x138 x139 x140 x141 x142 x143 x144 x145 x146 x147 x148 x149 x150 x151 x152 x153 : Value), i ≤ k → k ≤ s.size → i + firstN isEnd ((T s).drop i) = k → K { tmps := #[Value.string s, undef, u2, Value.pointer (some { block := w.heap.size, off := 0 }), u4, Value.pointer (some { block := w1.heap.size, off := 0 }), Value.int IntKind.i64 0, u7, Value.int IntKind.i64 ↑k, u9, Value.int IntKind.i64 ↑i, Value.tuple #[Value.agg #[Value.int IntKind.i64 (chk (T s)).fst, Value.int IntKind.i64 (chk (T s)).snd.fst], Value.int IntKind.i64 0], Value.string s, Value.tuple #[Value.agg #[Value.int IntKind.i64 (chk (T s)).fst, Value.int IntKind.i64 (chk (T s)).snd.fst], Value.int IntKind.i64 0], Value.agg #[Value.int IntKind.i64 (chk (T s)).fst, Value.int IntKind.i64 (chk (T s)).snd.fst], Value.int IntKind.i64 0, Value.int IntKind.i64 0, Value.bool false, undef, undef, Value.int IntKind.i64 ↑i, Value.string s, Value.int IntKind.i64 ↑s.size, Value.bool true, Value.string s, Value.int IntKind.i64 ↑i, Value.int IntKind.u8 ↑s[i].toNat, Value.bool false, Value.bool false, Value.string s, Value.int IntKind.i64 ↑i, Value.int IntKind.u8 ↑s[i].toNat, Value.bool false, Value.bool false, u34, u35, Value.string s, Value.int IntKind.i64 ↑i, Value.int IntKind.u8 ↑s[i].toNat, Value.bool false, u40, u41, u42, u43, u44, u45, u46, u47, u48, u49, u50, u51, Value.string s, Value.int IntKind.i64 ↑i, Value.bool false, Value.bool false, Value.string s, Value.int IntKind.i64 ↑i, Value.int IntKind.u8 ↑s[i].toNat, Value.bool false, Value.bool false, u61, u62, u63, u64, u65, u66, u67, u68, u69, u70, u71, u72, u73, u74, u75, u76, u77, u78, u79, u80, u81, u82, u83, u84, u85, u86, Value.string s, Value.int IntKind.i64 ↑i, Value.int IntKind.u8 ↑s[i].toNat, Value.int IntKind.u8 0, Value.bool false, u92, u93, u94, u95, u96, u97, u98, u99, u100, u101, u102, u103, u104, u105, u106, u107, u108, u109, Value.int IntKind.i64 ↑i, x111, x112, x113, x114, x115, x116, x117, x118, x119, x120, x121, x122, x123, x124, x125, x126, x127, x128, x129, x130, x131, x132, x133, x134, x135, x136, x137, x138, x139, x140, x141, x142, x143, x144, x145, x146, x147, x148, x149, x150, x151, x152, x153, u154, u155, u156, u157, u158, u159, u160, u161, u162, u163, u164, undef, undef], defers := [] } wr := by
      intro k x111 x112 x113 x114 x115 x116 x117 x118 x119 x120 x121 x122 x123 x124 x125 x126 x127 x128 x129 x130 x131 x132 x133 x134 x135 x136 x137 x138 x139 x140 x141 x142 x143 x144 x145 x146 x147 x148 x149 x150 x151 x152 x153 hik hk he
      have hl := HL.out
      have htb : T (s.extract i k) = ((T s).drop i).take (firstN isEnd ((T s).drop i)) := by
        rw [T_extract, List.drop_take]
        congr 1
        omega
      rw [← htb] at hl
      rw [he] at hl hn2
      have hne : i < k := by omega
      have HL := hide hl
      clear htb hl hn1 he
      go_wp2_with fail
      refine wp_region_taken [0, 1, 2, 3, 4, 5, 6] [7, 8, 9, 10, 11] (by kernel_rfl) (by kernel_rfl) (by kernel_rfl) (by kernel_rfl) (.cons (.zero) (.cons (.succ (.zero)) (.cons (.succ (.succ (.zero))) (.cons (.succ (.succ (.succ (.zero)))) (.cons (.succ (.succ (.succ (.succ (.zero))))) (.cons (.succ (.succ (.succ (.succ (.succ (.zero)))))) (.cons (.succ (.succ (.succ (.succ (.succ (.succ (.zero))))))) .nil))))))) (.cons (.succ (.succ (.succ (.succ (.succ (.succ (.succ (.zero)))))))) (.cons (.succ (.succ (.succ (.succ (.succ (.succ (.succ (.succ (.zero))))))))) (.cons (.succ (.succ (.succ (.succ (.succ (.succ (.succ (.succ (.succ (.zero)))))))))) (.cons (.succ (.succ (.succ (.succ (.succ (.succ (.succ (.succ (.succ (.succ (.zero))))))))))) (.cons (.succ (.succ (.succ (.succ (.succ (.succ (.succ (.succ (.succ (.succ (.succ (.zero)))))))))))) .nil))))) (fun _ _ _ _ _ h => h) ?_
      repeat (first | go_big_quiet_step ((fail)) | quiet_step ((fail)))
      refine wpQuiet_nil ?_
      go_wp2_with fail
      refine (HAT.out _).mono ?_; rintro e w3 ⟨rfl, hb3⟩
      have hown3 := own_below HT.out.own.drew hb3
      have hbel3 : Below w.heap.size w w3 := below_wide HT.out.bel.drew hb3
      have hpp3 : PosR w3 w.heap.size 0 0 := heapB hb3 HT.out.p
      have HO3 := hide hown3
      have HB3 := hide hbel3
      have HP3 := hide hpp3
      clear hown3 hbel3 hpp3 hb3
      generalize hgl : (adv ((T s).take i) 1 1).1 = l at *
      generalize hgc : (adv ((T s).take i) 1 1).2 = c at *
      obtain ⟨i1, hi1, iz1, is1, ib1⟩ := info_parts infoRef
      have HOWN2 := hide (HO3.out.alloc (Obj.cells #[.int .u8 (1), .string (s.extract i k), .int .i64 l, .int .i64 c] 75))
      go_wp2_with (at_builtin; (refine wpList_append_own _ rfl (.tmp 154) (.tmp 163) 28 rfl w.heap.size 75 i1 _ 4 40 Try.underlying28 hi1 iz1 is1 ib1 rfl (by decide) _ bs.length (bs.flatMap BTok.cells) rfl HOWN2.out ⟨w3.heap.size, 0, none⟩ 1 1 [.int .u8 (1), .string (s.extract i k), .int .i64 l, .int .i64 c] rfl rfl ?cells ?ones ?c63 ?cby ?cbase ?_))
      case cells =>
        intro j u hj
        match j, hj with
        | 0, hj => simp at hj; subst hj; simp [Addr.add, go_sem]
        | 1, hj => simp at hj; subst hj; simp [Addr.add, go_sem]
        | 2, hj => simp at hj; subst hj; simp [Addr.add, go_sem]
        | 3, hj => simp at hj; subst hj; simp [Addr.add, go_sem]
        | j + 4, hj => simp at hj
      case ones => simp [Value.oneCell']
      case c63 => unfold maxLen; omega
      case cby => omega
      case cbase => have := HB3.out.size; simp; omega
      intro v' w4 hown' hgrow _
      have HGR := hide hgrow
      have HOW := hide hown'
      clear hgrow hown'
      go_wp2_with fail
      have hsz3 := HB3.out.size
      have hp1 : PosR (w3.alloc (Obj.cells #[.int .u8 (1), .string (s.extract i k), .int .i64 l, .int .i64 c] 75)) w.heap.size 0 0 := heap_old HP3.out
      have hrl' : RL s w v' w4 (k) (bs ++ [⟨1, (s.extract i k), l, c⟩]) := by
        refine ⟨hn2, by simp; omega, ?_, heap_grown hp1 HGR.out (own_ne_row HOWN2.out hp1 (by decide)), (HB3.out.alloc hsz3 _).grown HGR.out (by simp; omega) (fun k' hk' => (HOWN2.out.lt k' hk').1), ?_⟩
        · have := HOW.out
          simpa [BTok.cells] using this
        · have := HL.out
          simpa [BTok.tok] using this
      exact ⟨⟨k, _, rfl, hrl'⟩, by simp [intOf]; omega⟩
    have HAK := hide aK
    clear aK
    have KEY := hide key
    clear key
    go_loop [8] (fun j => ∃ k : Nat, i ≤ k ∧ k ≤ s.size ∧ j = .int .i64 k ∧ i + firstN isEnd ((T s).drop i) = k + firstN isEnd ((T s).drop k)) (fun j => s.size - (intOf j).toNat)
    case atStart => exact ⟨i, Nat.le_refl _, hle, rfl, rfl⟩
    case round =>
      obtain ⟨k, hik, hk, rfl, hf⟩ := hrel
      have HF := hide hf
      clear hf
      by_cases hlt : k < s.size
      case neg =>
        have he : i + firstN isEnd ((T s).drop i) = k := by rw [HF.out, List.drop_eq_nil_of_le (i := k) (by rw [T_len]; omega)]; simp [firstN]
        go_wp2_with fail
        exact KEY.out k _ _ _ _ _ _ _ _ _ _ _ _ _ _ _ _ _ _ _ _ _ _ _ _ _ _ _ _ _ _ _ _ _ _ _ _ _ _ _ _ _ _ _ hik hk he
      have HN := hide (firstN_at isEnd s k hlt)
      have HX := hide (isEnd_bits s k hlt)
      have HBK := hide (fun W => begins_any s k W hlt hlen)
      have HSK := hide (fun W => sign_any s[k] W)
      cases c1 : ((s[k].toNat : Int) == 32)
      case true =>
        have b1 : ((s[k].toNat : Int) != 32) = false := by rw [bne, c1]; rfl
        have he : i + firstN isEnd ((T s).drop i) = k := by rw [HF.out, HN.out, HX.out, c1]; simp
        go_wp2_with fail
        exact KEY.out k _ _ _ _ _ _ _ _ _ _ _ _ _ _ _ _ _ _ _ _ _ _ _ _ _ _ _ _ _ _ _ _ _ _ _ _ _ _ _ _ _ _ _ hik hk he
      have b1 : ((s[k].toNat : Int) != 32) = true := by rw [bne, c1]; rfl
      cases c2 : ((s[k].toNat : Int) == 10)
      case true =>
        have b2 : ((s[k].toNat : Int) != 10) = false := by rw [bne, c2]; rfl
        have he : i + firstN isEnd ((T s).drop i) = k := by rw [HF.out, HN.out, HX.out, c2]; simp
        go_wp2_with fail
        exact KEY.out k _ _ _ _ _ _ _ _ _ _ _ _ _ _ _ _ _ _ _ _ _ _ _ _ _ _ _ _ _ _ _ _ _ _ _ _ _ _ _ _ _ _ _ hik hk he
      have b2 : ((s[k].toNat : Int) != 10) = true := by rw [bne, c2]; rfl
      cases c3 : ((s[k].toNat : Int) == 34)
      case true =>
        have b3 : ((s[k].toNat : Int) != 34) = false := by rw [bne, c3]; rfl
        have he : i + firstN isEnd ((T s).drop i) = k := by rw [HF.out, HN.out, HX.out, c3]; simp
        go_wp2_with fail
        exact KEY.out k _ _ _ _ _ _ _ _ _ _ _ _ _ _ _ _ _ _ _ _ _ _ _ _ _ _ _ _ _ _ _ _ _ _ _ _ _ _ _ _ _ _ _ hik hk he
      have b3 : ((s[k].toNat : Int) != 34) = true := by rw [bne, c3]; rfl
      cases c4 : ((s[k].toNat : Int) == 35)
      case true =>
        have b4 : ((s[k].toNat : Int) != 35) = false := by rw [bne, c4]; rfl
        have he : i + firstN isEnd ((T s).drop i) = k := by rw [HF.out, HN.out, HX.out, c4]; simp
        go_wp2_with fail
        exact KEY.out k _ _ _ _ _ _ _ _ _ _ _ _ _ _ _ _ _ _ _ _ _ _ _ _ _ _ _ _ _ _ _ _ _ _ _ _ _ _ _ _ _ _ _ hik hk he
      have b4 : ((s[k].toNat : Int) != 35) = true := by rw [bne, c4]; rfl
      cases c5 : (sgn s[k] == 0)
      case false =>
        have he : i + firstN isEnd ((T s).drop i) = k := by rw [HF.out, HN.out, HX.out, c5]; simp
        generalize sgn s[k] = g at *
        go_wp2_with fail
        refine (HSK.out _).mono ?_; rintro e w3 ⟨rfl, rfl⟩
        go_wp2_with fail
        exact KEY.out k _ _ _ _ _ _ _ _ _ _ _ _ _ _ _ _ _ _ _ _ _ _ _ _ _ _ _ _ _ _ _ _ _ _ _ _ _ _ _ _ _ _ _ hik hk he
      have hg0 := beq_t c5
      rw [hg0] at HSK
      cases c6 : Lib.hasPrefix ((T s).drop k) [47, 42]
      case true =>
        have he : i + firstN isEnd ((T s).drop i) = k := by rw [HF.out, HN.out, HX.out, c6]; simp
        rw [c6] at HBK
        clear c5 hg0
        go_wp2_with fail
        refine (HSK.out _).mono ?_; rintro e w3 ⟨rfl, rfl⟩
        go_wp2_with fail
        refine (HBK.out _).mono ?_; rintro e w3 ⟨rfl, rfl⟩
        go_wp2_with fail
        exact KEY.out k _ _ _ _ _ _ _ _ _ _ _ _ _ _ _ _ _ _ _ _ _ _ _ _ _ _ _ _ _ _ _ _ _ _ _ _ _ _ _ _ _ _ _ hik hk he
      have he : i + firstN isEnd ((T s).drop i) = k + 1 + firstN isEnd ((T s).drop (k + 1)) := by rw [HF.out, HN.out, HX.out, c1, c2, c3, c4, c5, c6]; simp; omega
      have HE := hide he
      rw [c6] at HBK
      clear c5 hg0 he
      go_wp2_with fail
      refine (HSK.out _).mono ?_; rintro e w3 ⟨rfl, rfl⟩
      go_wp2_with fail
      refine (HBK.out _).mono ?_; rintro e w3 ⟨rfl, rfl⟩
      go_wp2_with fail
      go_round
      case rel => exact ⟨k + 1, by omega, by omega, by go_num, HE.out⟩
      case measure => simp [intOf]; omega
end Go.Proofs.Ytihmmmodimionaa.Lx
namespace Go.Proofs.Ytihmmmodimionaa.Lx
open Go.RowKit

set_option maxRecDepth 100000 in
set_option maxHeartbeats 1000000 in
theorem ref_no (s : ByteArray) (w : World) (hs : ¬ (chk (T s)).2.2 = 0) (hlen : s.size ≤ maxLen) :
    Calls Try.prog 9 #[.string s] w (RefOut (tokRes (T s)).1 (tokRes (T s)).2 w) := by
  have HC := hide (fun o => ref_check s (w.alloc o) hlen)
  have hne := beq_if hs
  rw [tokRes_no hs]
  clear hs
  generalize hp : (chk (T s)).1 = p at *
  generalize hq : (chk (T s)).2.1 = q at *
  generalize hr : (chk (T s)).2.2 = r at *
  have HP := hide (show chk (T s) = (p, q, r) by rw [← hp, ← hq, ← hr])
  clear hp hq hr
  go_enter Try.func9, Try.ntmps9
  go_wp2_with fail
  refine (HC.out _).mono ?_; rintro e w1 ⟨rfl, hb1⟩
  have hp1 : PosR w1 w.heap.size 0 0 := heapB hb1 (heap_new w _)
  have hbw : Below w.heap.size w w1 := below_wide (bel_one _ _) hb1
  have q0 := fun o => cell_heap (j := 0) (heap_old (p := o) hp1) rfl
  have q1 := fun o => cell_heap (j := 1) (heap_old (p := o) hp1) rfl
  have f0 := fun o => frozen_heap (j := 0) (heap_old (p := o) hp1)
  have f1 := fun o => frozen_heap (j := 1) (heap_old (p := o) hp1)
  have HB := hide hbw
  clear hp1 hbw hb1
  go_wp2_with fail
  go_region
  go_wp2_with fail
  refine bodyPost_ret (v := .tuple #[.slice none 0 0, .agg #[.int .i64 p, .int .i64 q], .int .i64 r]) (by simp [results, Try.results9, go_sem, q0, q1]) rfl ?_
  rw [HP.out]
  exact ⟨_, [], rfl, rfl, World.ownsRow_nil _ _ _ _, (((HB.out.alloc HB.out.size _).setCell (p := ⟨w.heap.size, 0, none⟩) (Nat.le_refl _) _).setCell (p := ⟨w.heap.size, 1, none⟩) (Nat.le_refl _) _).drew, by simp⟩

theorem ref_any (s : ByteArray) (w : World) (hlen : s.size ≤ maxLen) :
    Calls Try.prog 9 #[.string s] w (RefOut (tokRes (T s)).1 (tokRes (T s)).2 w) := by
  by_cases hs : (chk (T s)).2.2 = 0
  · exact ref_ok s w hs
  · exact ref_no s w hs hlen

/-- a row of tokens, as it reads -/
def TokRow (w : World) (v : Value) (bs : List BTok) : Prop :=
  ∃ A cap, v = .slice A bs.length cap ∧ (0 < bs.length → ∃ g, A = some ⟨g, 0, none⟩ ∧ ∀ j, j < bs.length * 4 → w.cell? ⟨g, j, none⟩ = (bs.flatMap BTok.cells)[j]?)
theorem tokRow_own {w : World} {base : Nat} {t : TypeId} {v : Value} {bs : List BTok} (h : w.ownsRow base t 4 v bs.length (bs.flatMap BTok.cells)) : TokRow w v bs := by
  rcases h.2 with ⟨rfl, h0⟩ | ⟨g, cap, cur, rfl, h1, h2, h3, h4, h5, h6⟩
  · exact ⟨none, 0, by rw [h0], fun h => by omega⟩
  · exact ⟨_, cap, rfl, fun _ => ⟨g, rfl, fun j hj => h.cellAt j hj⟩⟩
theorem T_inj {a b : ByteArray} (h : T a = T b) : a = b := by
  unfold T at h
  cases a; cases b
  simp only [Array.toList_inj] at h
  rw [h]
theorem tok_inj : ∀ {a b : List BTok}, a.map BTok.tok = b.map BTok.tok → a = b := by
  intro a
  induction a with
  | nil => intro b h; cases b with
    | nil => rfl
    | cons => simp at h
  | cons x xs ih =>
    intro b h
    cases b with
    | nil => simp at h
    | cons y ys =>
      simp only [List.map_cons, List.cons.injEq] at h
      obtain ⟨h1, h2⟩ := h
      rw [ih h2]
      obtain ⟨k, t, l, c⟩ := x
      obtain ⟨k', t', l', c'⟩ := y
      simp only [BTok.tok, Tok.mk.injEq] at h1
      obtain ⟨rfl, h3, rfl, rfl⟩ := h1
      rw [T_inj h3]
theorem flat_at (bs : List BTok) (i : Nat) (h : i < bs.length) : (bs.flatMap BTok.cells)[i * 4]? = some (.int .u8 bs[i].k) ∧ (bs.flatMap BTok.cells)[i * 4 + 1]? = some (.string bs[i].b) ∧ (bs.flatMap BTok.cells)[i * 4 + 2]? = some (.int .i64 bs[i].l) ∧ (bs.flatMap BTok.cells)[i * 4 + 3]? = some (.int .i64 bs[i].c) := by
  induction bs generalizing i with
  | nil => simp at h
  | cons x xs ih =>
    cases i with
    | zero => exact ⟨rfl, rfl, rfl, rfl⟩
    | succ i =>
      have := ih i (by simpa using h)
      have e : (i + 1) * 4 = i * 4 + 4 := by omega
      have e1 : (i + 1) * 4 + 1 = (i * 4 + 1) + 4 := by omega
      have e2 : (i + 1) * 4 + 2 = (i * 4 + 2) + 4 := by omega
      have e3 : (i + 1) * 4 + 3 = (i * 4 + 3) + 4 := by omega
      rw [e1, e2, e3, e]
      simp only [List.flatMap_cons, BTok.cells, List.cons_append, List.nil_append, List.getElem?_cons_succ, List.getElem_cons_succ]
      exact this

theorem same_pos (w : World) (a b : Int) : Calls Try.prog 11 #[.agg #[.int .i64 a, .int .i64 b], .agg #[.int .i64 a, .int .i64 b]] w fun e w' => e = .returned (.bool true) ∧ Below w.heap.size w w' := by
  have ha : (a == a) = true := by simp
  have hb : (b == b) = true := by simp
  go_enter Try.func11, Try.ntmps11
  go_wp2
  go_returns
  exact ⟨rfl, by go_grown⟩

set_option maxHeartbeats 1000000 in
theorem same_any (w : World) (va vb : Value) (bs : List BTok) (ha : TokRow w va bs) (hb : TokRow w vb bs) (hlen : bs.length ≤ 65536) :
    Calls Try.prog 10 #[va, vb] w fun e w' => e = .returned (.bool true) ∧ Below w.heap.size w w' := by
  obtain ⟨A, ca, rfl, hA⟩ := ha
  obtain ⟨B, cb, rfl, hB⟩ := hb
  go_enter Try.func10, Try.ntmps10
  go_wp2_with fail
  go_loopw [5] (fun j wr => ∃ i : Nat, i ≤ bs.length ∧ j = .int .i64 i ∧ Below w.heap.size w wr) (fun j _ => bs.length - (intOf j).toNat)
  case atStart => exact ⟨0, Nat.zero_le _, rfl, Below.refl _ _⟩
  case round =>
    obtain ⟨i, hi, rfl, hbl⟩ := hrel
    have HB := hide hbl
    clear hbl
    by_cases hlt : i < bs.length
    · obtain ⟨g, rfl, hg⟩ := hA (by omega)
      obtain ⟨g', rfl, hg'⟩ := hB (by omega)
      have h0 := hg (i * 4) (by omega)
      have h1 := hg (i * 4 + 1) (by omega)
      have h2 := hg (i * 4 + 2) (by omega)
      have h3 := hg (i * 4 + 3) (by omega)
      have k0 := hg' (i * 4) (by omega)
      have k1 := hg' (i * 4 + 1) (by omega)
      have k2 := hg' (i * 4 + 2) (by omega)
      have k3 := hg' (i * 4 + 3) (by omega)
      obtain ⟨f0, f1, f2, f3⟩ := flat_at bs i hlt
      rw [f0] at h0 k0
      rw [f1] at h1 k1
      rw [f2] at h2 k2
      rw [f3] at h3 k3
      have h0 := lat_cell (cellB HB.out h0)
      have h1 := lat_cell (cellB HB.out h1)
      have h2 := lat_cell (cellB HB.out h2)
      have h3 := lat_cell (cellB HB.out h3)
      have k0 := lat_cell (cellB HB.out k0)
      have k1 := lat_cell (cellB HB.out k1)
      have k2 := lat_cell (cellB HB.out k2)
      have k3 := lat_cell (cellB HB.out k3)
      clear hA hB hg hg' f0 f1 f2 f3
      go_wp2_with fail
      refine wp_region_lat (by kernel_rfl) (by kernel_rfl) ?_
      repeat (first | go_big_quiet_step ((exact calls_lat (same_pos _ _ _))) | quiet_step ((exact calls_lat (same_pos _ _ _))))
      refine wpQuiet_nil ?_
      intro _ hlat
      obtain ⟨wq, rfl⟩ := hlat
      go_wp2_with fail
      go_roundw
      case rel => exact ⟨i + 1, by omega, by go_num, HB.out.trans (lat_below _ _ |>.mono HB.out.size)⟩
      case measure => simp [intOf]; omega
    · go_wp2_with fail
      go_ret
      exact ⟨rfl, HB.out⟩
end Go.Proofs.Ytihmmmodimionaa.Lx
/- What Parse's answer is like, in plain words: it is the document's; each statement has words; it is not deep, nor great. -/
namespace Go.Proofs.Ytihmmmodimionaa.Tr
open Go.RowKit Go.Proofs.Ytihmmmodimionaa Go.Proofs.Ytihmmmodimionaa.Lx

/-- what the document's Parse answers -/
def rparseF (s : List UInt8) : RR :=
  if (tokRes s).2.2.2 = 0 then refR ((tokRes s).1.length + 1) [] [] (bsOf (tokRes s).1) else .err (tokRes s).2.2.2 (tokRes s).2.1 (tokRes s).2.2.1
theorem parse_ref (s : List UInt8) : match parseF s with
    | .ok F _ => rparseF s = .ok (rowsF 0 F) [] []
    | .err e l c => rparseF s = .err e l c := by
  unfold parseF rparseF
  by_cases h : (tokRes s).2.2.2 = 0
  · rw [if_pos h, if_pos h]
    have := list_ref ((tokRes s).1.length + 1) (0, 0) [] [] (bsOf (tokRes s).1) (by rw [bsOf_len]; omega) (.inl rfl) (by simp)
    rw [bsOf_len] at this
    simp only [List.length_nil] at this
    cases hl : listF ((tokRes s).1.length + 1) 0 (0, 0) (bsOf (tokRes s).1) with
    | ok F r =>
      rw [hl] at this
      have := this.1 trivial
      simpa using this.2
    | err e l c =>
      rw [hl] at this
      exact this
  · rw [if_neg h, if_neg h]
theorem gd_join : ∀ F G : Fo, Gd F → Gd G → Gd (F.app G)
  | .nil, _, _, h => h
  | .cons _ _ _ _ R, G, h, h' => ⟨h.1, h.2.1, h.2.2.1, gd_join R G h.2.2.2 h'⟩
theorem dp_app (d : Nat) : ∀ F G : Fo, dpF d F = true → dpF d G = true → dpF d (F.app G) = true
  | .nil, _, _, h => h
  | .cons _ _ _ K R, G, h, h' => by
    rw [dpF, Bool.and_eq_true, Bool.and_eq_true] at h
    rw [Fo.app, dpF, h.1, h.2.1, dp_app d R G h.2.2 h']
    rfl
theorem gd_leafs (n : List BTok) : ∀ l : List BTok, Gd (leafs n l)
  | [] => trivial
  | _ :: xs => ⟨by simp, by simp, trivial, gd_leafs n xs⟩
theorem dp_leafs (d : Nat) (hd : d ≤ 60) (n : List BTok) : ∀ l : List BTok, dpF d (leafs n l) = true
  | [] => rfl
  | x :: xs => by rw [leafs, dpF, dp_leafs d hd n xs, decide_eq_true hd]; rfl
theorem sz_leafs (n : List BTok) : ∀ l : List BTok, szF (leafs n l) = l.length * (2 * n.length + 3)
  | [] => by simp [leafs, szF]
  | x :: xs => by
    rw [leafs, szF, sz_leafs n xs]
    simp only [szF, List.length_append, List.length_map, List.length_cons, List.length_nil, Nat.add_mul]
    omega
structure NiceF (d M : Nat) (F : Fo) (toks r : List BTok) : Prop where
  gd : Gd F
  dp : dpF d F = true
  sz : ∃ k, toks.length = r.length + k ∧ szF F ≤ M * k
theorem words_pos {t : BTok} {ts : List BTok} (h : t.k = 1) : 1 ≤ (wordsT (t :: ts)).length := by rw [wordsT, if_pos h]; simp
theorem tail_nice {rec : Pl → List BTok → PR} {deep M : Nat} {first : Pl} {n : List BTok} {all : Fo} {toks : List BTok} {F : Fo} {r : List BTok} (hd : deep ≤ 32) (hn : 1 ≤ n.length) (k0 : Nat) (hk0 : 2 * n.length + 1 ≤ M * k0) (ha : Gd all) (hda : dpF deep all = true) (hsa : szF all ≤ M * k0)
    (hr : deep < 32 → ∀ o ts K q, ts.length < toks.length → rec o ts = .ok K q → NiceF (deep + 1) M K ts q) (h : tailS rec deep first n all toks = .ok F r) : Gd F ∧ dpF deep F = true ∧ ∃ k, toks.length = r.length + k ∧ szF F ≤ M * (k0 + k) := by
  have hd60 : decide (deep ≤ 60) = true := decide_eq_true (by omega)
  cases toks with
  | nil => cases h
  | cons t ts =>
    rw [tailS] at h
    by_cases k4 : t.k = 4
    · rw [if_pos k4] at h
      injection h with h1 h2
      subst h2
      subst h1
      have hm : M * k0 ≤ M * (k0 + 1) := Nat.mul_le_mul_left _ (by omega)
      by_cases h0 : all.len = 0
      · rw [if_pos h0]
        refine ⟨⟨by simpa using hn, by simpa using hn, trivial, trivial⟩, by simp [dpF, hd60], 1, by simp, ?_⟩
        simp only [szF, List.length_map]
        omega
      · rw [if_neg h0]
        exact ⟨ha, hda, 1, by simp, by omega⟩
    · rw [if_neg k4] at h
      by_cases k2 : t.k = 2 ∧ all.len = 0
      · rw [if_pos k2] at h
        by_cases h32 : deep = 32
        · rw [if_pos h32] at h; cases h
        · rw [if_neg h32] at h
          cases e : rec t.pos ts with
          | err e' l c => rw [e] at h; cases h
          | ok K q =>
            rw [e] at h
            cases h
            have hq := hr (by omega) _ _ _ _ (by simp) e
            obtain ⟨k, hk1, hk2⟩ := hq.sz
            refine ⟨⟨by simpa using hn, by simpa using hn, hq.gd, trivial⟩, by simp [dpF, hd60, hq.dp], k + 1, by simp; omega, ?_⟩
            simp only [szF, List.length_map]
            have h1 : M * (k0 + (k + 1)) = M * k0 + M * k + M := by rw [Nat.mul_add, Nat.mul_add, Nat.mul_one]; omega
            omega
      · rw [if_neg k2] at h; cases h
theorem stmt_nice {rec : Pl → List BTok → PR} {deep M : Nat} {first : Pl} {t : BTok} {ts : List BTok} {F : Fo} {r : List BTok} (hk : t.k = 1) (hd : deep ≤ 32) (hM : 3 * (ts.length + 2) ≤ M)
    (hr : deep < 32 → ∀ o us K q, us.length < ts.length + 1 → rec o us = .ok K q → NiceF (deep + 1) M K us q) (h : stmtF rec deep first (t :: ts) = .ok F r) : NiceF deep M F (t :: ts) r := by
  have hw := congrArg List.length (words_behind (t :: ts))
  rw [List.length_append, List.length_cons] at hw
  have hn := words_pos (ts := ts) hk
  have hk1 : ∀ k0, 1 ≤ k0 → 2 * (wordsT (t :: ts)).length + 1 ≤ M * k0 := fun k0 h => by
    have : M ≤ M * k0 := Nat.le_mul_of_pos_right _ h
    omega
  have hb := behind_le (t :: ts)
  unfold stmtF at h
  split at h
  · cases h
  · rename_i u us e
    rw [e] at hb hw
    simp only [List.length_cons] at hb hw
    split at h
    · have hb2 := behind_le us
      have hw2 := congrArg List.length (words_behind us)
      rw [List.length_append] at hw2
      split at h
      · cases h
      · rename_i v vs e2
        rw [e2] at hb2 hw2
        simp only [List.length_cons] at hb2 hw2
        split at h
        · obtain ⟨h1, h2, k, h3, h4⟩ := tail_nice hd hn ((wordsT (t :: ts)).length + 1 + (wordsT us).length + 1) (hk1 _ (by omega)) (gd_leafs _ _) (dp_leafs deep (by omega) _ _) (by
            rw [sz_leafs]
            have h5 : (wordsT us).length * (2 * (wordsT (t :: ts)).length + 3) ≤ (wordsT us).length * M := Nat.mul_le_mul_left _ (by omega)
            have h6 : M * (wordsT us).length ≤ M * ((wordsT (t :: ts)).length + 1 + (wordsT us).length + 1) := Nat.mul_le_mul_left _ (by omega)
            rw [Nat.mul_comm _ M] at h5
            omega) (fun hd o ws K q hl => hr hd o ws K q (by omega)) h
          exact ⟨h1, h2, _, by simp only [List.length_cons]; omega, h4⟩
        · cases h
    · obtain ⟨h1, h2, k, h3, h4⟩ := tail_nice hd hn (wordsT (t :: ts)).length (hk1 _ hn) (show Gd .nil from trivial) rfl (by simp [szF]) (fun hd o ws K q hl => hr hd o ws K q (by simp only [List.length_cons] at hl; omega)) h
      simp only [List.length_cons] at h3
      exact ⟨h1, h2, _, by simp only [List.length_cons]; omega, h4⟩
theorem list_nice (M : Nat) : ∀ (f deep : Nat) (op : Pl) (toks : List BTok) (F : Fo) (r : List BTok), deep ≤ 32 → 3 * (toks.length + 1) ≤ M → listF f deep op toks = .ok F r → NiceF deep M F toks r := by
  intro f
  induction f with
  | zero => intro deep op toks F r _ _ h; cases h
  | succ f ih =>
    intro deep op toks F r hd hM h
    cases toks with
    | nil =>
      unfold listF at h
      split at h
      · cases h; exact ⟨trivial, rfl, 0, rfl, by simp [szF]⟩
      · cases h
    | cons t ts =>
      simp only [List.length_cons] at hM
      unfold listF at h
      split at h
      · split at h
        · cases h
        · cases h; exact ⟨trivial, rfl, 1, by simp, by simp [szF]⟩
      · split at h
        · rename_i k1
          split at h
          · rename_i G q e
            have h1 := stmt_nice (M := M) k1 hd (by omega) (fun hd' o us K q' hl h' => ih (deep + 1) o us K q' (by omega) (by omega) h') e
            cases h2 : listF f deep op q with
            | err e l c => rw [h2] at h; cases h
            | ok H q' =>
              rw [h2] at h
              cases h
              obtain ⟨k1', hk1, hs1⟩ := h1.sz
              have h3 := ih deep op q H _ hd (by simp only [List.length_cons] at hk1; omega) h2
              obtain ⟨k2, hk2, hs2⟩ := h3.sz
              refine ⟨gd_join _ _ h1.gd h3.gd, dp_app _ _ _ h1.dp h3.dp, k1' + k2, by omega, ?_⟩
              rw [sz_app, Nat.mul_add]
              omega
          · cases h
        · cases h
theorem parse_nice (s : List UInt8) (F : Fo) (r : List BTok) (hl : (tokRes s).1.length ≤ 65536) (h : parseF s = .ok F r) : Gd F ∧ dpF 0 F = true ∧ szF F ≤ 17179869184 := by
  unfold parseF at h
  split at h
  · have := list_nice (3 * 65537) _ _ _ _ _ _ (by omega) (by rw [bsOf_len]; omega) h
    obtain ⟨k, hk, hs⟩ := this.sz
    rw [bsOf_len] at hk
    refine ⟨this.gd, this.dp, ?_⟩
    have : 3 * 65537 * k ≤ 3 * 65537 * 65536 := Nat.mul_le_mul_left _ (by omega)
    omega
  · cases h
theorem nodes_rows : ∀ (F : Fo) (d : Nat), (rowsF d F).length = F.nodes
  | .nil, _ => rfl
  | .cons ws ps b K R, d => by
    rw [rowsF, List.length_cons, List.length_append, nodes_rows K, nodes_rows R]
    rfl
end Go.Proofs.Ytihmmmodimionaa.Tr
/- The document's Parse: every text is read as rows, or refused where refR refuses it. -/
namespace Go.Proofs.Ytihmmmodimionaa.Tr
open Go.RowKit Go.Proofs.Ytihmmmodimionaa Go.Proofs.Ytihmmmodimionaa.Lx

def RParseOut (r : RR) (w : World) (e' : Ending) (w' : World) : Prop :=
  Below w.heap.size w w' ∧ match r with
  | .ok rows _ _ => ∃ v xs B, e' = .returned (.tuple #[v, .agg #[.int .i64 0, .int .i64 0], .int .i64 0]) ∧ Ro w w' v rows xs B
  | .err e l c => e ≠ 0 ∧ e' = .returned (.tuple #[.slice none 0 0, .agg #[.int .i64 l, .int .i64 c], .int .i64 e])
/-- the last brace is closed -/
theorem own_pop {w : World} {base n c size : Nat} {t : TypeId} {A : Option Addr} {xs ys zs : List Value} (h : w.ownsRow base t size (.slice A (n + 1) c) (n + 1) xs) (e : xs = ys ++ zs) (hy : ys.length = n * size) : w.ownsRow base t size (.slice A n c) n ys := by
  refine ⟨hy, ?_⟩
  rcases h.2 with ⟨_, h2⟩ | ⟨g, cap, cur, hv, hb, hg, h1, h2, h3, h4⟩
  · omega
  · injection hv with q1 q2 q3
    subst q1 q3
    refine .inr ⟨g, c, cur, rfl, hb, hg, by omega, h2, h3, ?_⟩
    rw [e] at h4
    have : n * size ≤ (n + 1) * size := Nat.mul_le_mul_right _ (by omega)
    have h5 : cur.toList.take (n * size) = (cur.toList.take ((n + 1) * size)).take (n * size) := by rw [List.take_take, Nat.min_eq_left this]
    rw [h5, h4, ← hy, List.take_left']
    rfl
theorem RdS.pop {w0 x : World} {p : Nat} {A Ab : Option Addr} {cap cb : Nat} {ts : List BTok} {i : Nat} {vr : Value} {rows : List RowD} {o : Pl} {br : List Pl} {xs : List Value} {B : Nat → Prop} (h : RdS w0 x p A cap ts i vr (.slice Ab (o :: br).length cb) rows (o :: br) xs B 0 0 0) :
    RdS w0 (x.setCell ⟨p, 3, none⟩ (.slice Ab br.length cb)) p A cap ts i vr (.slice Ab br.length cb) rows br xs B 0 0 0 := by
  have hp := h.pl
  have h4 : Only p x (x.setCell ⟨p, 3, none⟩ (.slice Ab br.length cb)) := only_set (only_refl p x) 3 _
  have hst := h.st
  have hbr := own_pop (n := br.length) h.br (ys := posC br.reverse) (zs := posC [o]) (by rw [List.reverse_cons, posC_app]) (by rw [posC_len, List.length_reverse])
  refine ⟨⟨heap_set (j := 3) hst.h, src_keep hst.t (fun a ha => ?_), hst.lt, hst.il, hst.nl⟩, h.ro.grow h4 (fun b e => by cases e; exact hp), own_grow hbr h4 (fun b e => by cases e; exact hp), hp, fun g e => h.bB g (by cases Ab with | none => cases e | some a => exact e)⟩
  have h1 := hst.lt a ha
  exact h4.block a.block (Nat.lt_trans h1 (lt_heap hst.h)) (fun e => by injection e with e; omega)
theorem refr_err {R : RR} {rows : List RowD} {br : List Pl} {u : BTok} {us : List BTok} (h : R = refR ((u :: us).length + 1) rows br (u :: us)) (h1 : u.k ≠ 1) (h3 : ¬ (u.k = 3 ∧ br ≠ [])) : R = .err 130 u.l u.c := by
  rw [h]
  conv => lhs; unfold refR
  rw [if_neg h1, if_neg h3]
/-- what is loaded at the ends -/
structure BZ (p : Nat) (A : Option Addr) (cap : Nat) (ts : List BTok) (i : Nat) (vr vb : Value) (gb n : Nat) (o : Pl) (z : World) : Prop where
  st : StX z p A cap ts i vr vb 0 0 0
  c0 : z.cell? ⟨gb, n * 2, none⟩ = some (.int .i64 o.1)
  c1 : z.cell? ⟨gb, n * 2 + 1, none⟩ = some (.int .i64 o.2)
structure EZ (p : Nat) (o : Obj) (z : World) : Prop where
  h : z.heap[p]? = some o
/-- the head of each round -/
def RLoop (w w0 : World) (p : Nat) (A : Option Addr) (cap : Nat) (ts : List BTok) (g : Nat) (wr : World) : Prop :=
  Below w.heap.size w wr ∧ PosR wr w.heap.size 0 0 ∧ w0.heap.size ≤ wr.heap.size ∧ ((∃ rows br i vr vb xs B, RdS w0 wr p A cap ts i vr vb rows br xs B 0 0 0 ∧ (ts.drop i).length ≤ g ∧ rows.length ≤ i ∧ br.length ≤ 32 ∧ refR (ts.length + 1) [] [] ts = refR ((ts.drop i).length + 1) rows br (ts.drop i)) ∨
    (∃ e l c i vr vb, e ≠ 0 ∧ StX wr p A cap ts i vr vb e l c ∧ refR (ts.length + 1) [] [] ts = .err e l c))
set_option maxHeartbeats 8000000 in
set_option maxRecDepth 100000 in
theorem rparse_any (s : ByteArray) (w : World) (hlen : s.size ≤ maxLen) :
    Calls Try.prog 16 #[.string s] w (RParseOut (rparseF (T s)) w) := by
  have HT := hide (fun o => ref_any s (w.alloc o) hlen)
  have HK := hide (bsOf_kz (T s))
  have HF : Hid (rparseF (T s) = if (tokRes (T s)).2.2.2 = 0 then refR ((bsOf (tokRes (T s)).1).length + 1) [] [] (bsOf (tokRes (T s)).1) else .err (tokRes (T s)).2.2.2 (tokRes (T s)).2.1 (tokRes (T s)).2.2.1) := hide (by rw [bsOf_len]; rfl)
  generalize hq : (tokRes (T s)).2 = q at HT HF
  obtain ⟨l, c, r⟩ := q
  clear hq
  go_enter Try.func16, Try.ntmps16
  go_wp2_with fail
  refine (HT.out _).mono ?_
  rintro e w1 ⟨v, bs, hbs, rfl, hown, hb, hlb⟩
  have hbs' := bsOf_tok hbs
  rw [← hbs'] at HF HK
  clear hbs hbs' HT
  have hp1 : PosR w1 w.heap.size 0 0 := heapB hb (heap_new w _)
  have hbw : Below w.heap.size w w1 := below_wide (bel_one _ _) hb
  obtain ⟨Av, cv, rfl⟩ := own_slice hown
  have hcaps := own_caps hown
  have HP1 := hide hp1
  have HB := hide hbw
  have hsz : w.heap.size < w1.heap.size := lt_heap hp1
  by_cases hr : r = 0
  · have hne : (r != 0) = false := by rw [hr]; decide
    have HF2 := hide (show rparseF (T s) = refR (bs.length + 1) [] [] bs from by rw [HF.out, if_pos hr])
    have hs2 : (w1.alloc (PosC l c)).heap.size = w1.heap.size + 1 := by simp
    have hn := heap_new (w1.alloc (PosC l c)) (StC Av bs.length cv 0 (.slice none 0 0) (.slice none 0 0) 0 0 0)
    rw [hs2] at hn
    have hst : RdS ((w1.alloc (PosC l c)).alloc (StC Av bs.length cv 0 (.slice none 0 0) (.slice none 0 0) 0 0 0)) ((w1.alloc (PosC l c)).alloc (StC Av bs.length cv 0 (.slice none 0 0) (.slice none 0 0) 0 0 0)) (w1.heap.size + 1) Av cv bs 0 (.slice none 0 0) (.slice none 0 0) [] [] [] (fun _ => False) 0 0 0 :=
      ⟨⟨hn, ((own_src hown).below (bel_one w1 _)).below (bel_one _ _), fun a ha => by have := hcaps.2.2 a ha; omega, Nat.zero_le _, hlb⟩, ro_nil _ _, ⟨rfl, .inl ⟨rfl, rfl⟩⟩, by simp, fun g e => by cases e⟩
    have HST := hide hst
    have HB3 := hide (show Below w.heap.size w ((w1.alloc (PosC l c)).alloc (StC Av bs.length cv 0 (.slice none 0 0) (.slice none 0 0) 0 0 0)) from (hbw.alloc (by omega) _).alloc (by simp; omega) _)
    have HP3 := hide (show PosR ((w1.alloc (PosC l c)).alloc (StC Av bs.length cv 0 (.slice none 0 0) (.slice none 0 0) 0 0 0)) w.heap.size 0 0 from heap_old (heap_old hp1))
    have HPL := hide (show w.heap.size < w1.heap.size + 1 from by omega)
    clear hr hst hcaps hown hb hp1 hbw HF hn hs2 HP1 HB hsz
    go_wp2_with fail
    generalize (w1.alloc (PosC l c)).alloc (StC Av bs.length cv 0 (.slice none 0 0) (.slice none 0 0) 0 0 0) = w3 at *
    generalize w1.heap.size + 1 = p at *
    go_loopg [] bs.length (fun g wr => RLoop w w3 p Av cv bs g wr)
    case atStart => exact ⟨HB3.out, HP3.out, Nat.le_refl _, .inl ⟨[], [], 0, _, _, _, _, HST.out, by simp, Nat.le_refl _, by simp, by simp⟩⟩
    case round =>
      clear HST HB3 HP3
      obtain ⟨hbl, hpr, hsz, hor⟩ := hrel
      have HBL := hide hbl
      have HPR := hide hpr
      have HSZ := hide hsz
      clear hbl hpr hsz
      rcases hor with ⟨rows, br, i, vr, vb, xs, B, hrd, hlg, hri, hbl, hRf⟩ | ⟨e, l2, c2, i, vr, vb, hne2, hst, hRf⟩
      · have HRd := hide hrd
        have HRf := hide hRf
        obtain ⟨Ab, cb, rfl⟩ := own_slice hrd.br
        obtain ⟨Ar, cr, rfl⟩ := own_slice hrd.ro.own
        have p1 := cell_heap (j := 1) hrd.st.h rfl
        have p4 := cell_heap (j := 4) hrd.st.h rfl
        have hil := hrd.st.il
        clear hrd hRf
        cases hd : bs.drop i with
        | nil =>
          have hge : bs.length ≤ i := by have := congrArg List.length hd; simp at this; omega
          have d1 : decide (i < bs.length) = false := decide_eq_false (by omega)
          have d1' : decide ((i : Int) < (bs.length : Int)) = false := decide_eq_false (by omega)
          rw [hd] at HRf
          have p3 := cell_heap (j := 3) HRd.out.st.h rfl
          clear hd hlg hge hil
          cases br with
          | nil =>
            have p2 := cell_heap (j := 2) HRd.out.st.h rfl
            have a0 := cell_heap (j := 0) HPR.out rfl
            have a1 := cell_heap (j := 1) HPR.out rfl
            have b0 := frozen_heap (j := 0) HPR.out
            have b1 := frozen_heap (j := 1) HPR.out
            go_wp2_with fail
            refine bodyPost_ret (v := .tuple #[.slice Ar rows.length cr, .agg #[.int .i64 0, .int .i64 0], .int .i64 0]) (by simp [results, Try.results16, go_sem, a0, a1]) rfl ?_
            rw [HF2.out, HRf.out]
            have hst := only_set (only_set (only_refl w.heap.size wr) 0 (.int .i64 0)) 1 (.int .i64 0)
            exact ⟨((HBL.out.setCell (p := ⟨w.heap.size, 0, none⟩) (Nat.le_refl _) _).setCell (p := ⟨w.heap.size, 1, none⟩) (Nat.le_refl _) _), _, _, _, rfl, (HRd.out.ro.grow hst (fun b e => by injection e with e; have h1 := HRd.out.pl; have h2 := HPL.out; omega)).base (by have h1 := HRd.out.pl; have h2 := HPL.out; omega)⟩
          | cons o b =>
            obtain ⟨gb, cb2, hgb, -, -⟩ := own_some HRd.out.br (by simp)
            injection hgb with q1 q2 q3
            subst q1 q3
            have hpg := posC_get (o :: b).reverse b.length o (by simp)
            have hc0 := own_cells HRd.out.br _ _ hpg.1
            have hc1 := own_cells HRd.out.br _ _ hpg.2
            rw [show (⟨gb, 0, none⟩ : Addr).add (b.length * 2) = ⟨gb, b.length * 2, none⟩ by simp [Addr.add, eq_comm]] at hc0
            rw [show (⟨gb, 0, none⟩ : Addr).add (b.length * 2 + 1) = ⟨gb, b.length * 2 + 1, none⟩ by simp [Addr.add, eq_comm]] at hc1
            have hws : BZ p Av cv bs i (.slice Ar rows.length cr) (.slice (some ⟨gb, 0, none⟩) (b.length + 1) cb) gb b.length o wr.drew := ⟨HRd.out.st.drew, hc0, hc1⟩
            have HWS := hide hws
            have g3 := fun x => cell_heap (j := 3) (u := .slice (some ⟨gb, 0, none⟩) (b.length + 1) cb) (pin_in hws x).st.h rfl
            have g4 := fun x => (pin_in hws x).c0
            have g5 := fun x => (pin_in hws x).c1
            have hbl2 : b.length ≤ 31 := by have := hbl; simp at this; omega
            have dn : ((b.length : Int) < (b.length : Int) + 1) := by omega
            clear hws hc0 hc1 hpg q2 hbl
            go_wp2_with fail
            clear p3 p4 p1 d1 d1'
            refine wp_region_tree (BZ p Av cv bs i (.slice Ar rows.length cr) (.slice (some ⟨gb, 0, none⟩) (b.length + 1) cb) gb b.length o) (fun k => ([13] : List Nat).contains k) (.take [0, 1, 2, 3, 4, 5, 6, 7, 8] (.step 9 (.take [10, 11, 12] (.step 13 .done)))) (by kernel_rfl) (by kernel_rfl) (by kernel_rfl) (by kernel_rfl) (.take (.cons (.zero) (.cons (.succ (.zero)) (.cons (.succ (.succ (.zero))) (.cons (.succ (.succ (.succ (.zero)))) (.cons (.succ (.succ (.succ (.succ (.zero))))) (.cons (.succ (.succ (.succ (.succ (.succ (.zero)))))) (.cons (.succ (.succ (.succ (.succ (.succ (.succ (.zero))))))) (.cons (.succ (.succ (.succ (.succ (.succ (.succ (.succ (.zero)))))))) (.cons (.succ (.succ (.succ (.succ (.succ (.succ (.succ (.succ (.zero))))))))) .nil))))))))) (.step (.succ (.succ (.succ (.succ (.succ (.succ (.succ (.succ (.succ (.zero)))))))))) rfl (.take (.cons (.succ (.succ (.succ (.succ (.succ (.succ (.succ (.succ (.succ (.succ (.zero))))))))))) (.cons (.succ (.succ (.succ (.succ (.succ (.succ (.succ (.succ (.succ (.succ (.succ (.zero)))))))))))) (.cons (.succ (.succ (.succ (.succ (.succ (.succ (.succ (.succ (.succ (.succ (.succ (.succ (.zero))))))))))))) .nil))) (.step (.succ (.succ (.succ (.succ (.succ (.succ (.succ (.succ (.succ (.succ (.succ (.succ (.succ (.zero)))))))))))))) rfl .done)))) ?hQ ?hS ?_
            case hQ => exact fun _ _ _ _ _ h => h
            case hS => exact HWS.out
            refine wpT_take ?_
            repeat (first | go_big_quiet_step ((fail)) | quiet_step ((fail)))
            refine wpQuiet_nil ?_
            refine wpT_step rfl ?_
            intro K1 hK1
            go_wp2_with fail
            refine hK1.out _ _ (fun _ => pin_mem HWS.out) ?_
            clear hK1
            refine wpT_take ?_
            repeat (first | go_big_quiet_step ((fail)) | quiet_step ((fail)))
            refine wpQuiet_nil ?_
            refine wpT_step rfl ?_
            intro K1 hK1
            go_wp2_with fail
            refine (rfail_any p Av cv bs i (.slice Ar rows.length cr) (.slice (some ⟨gb, 0, none⟩) (b.length + 1) cb) 71 o.1 o.2 _ HWS.out.st).mono ?_
            rintro e w9 ⟨rfl, ho9, hs9⟩
            have HO9 := hide ho9
            have HS9 := hide hs9
            clear ho9 hs9
            (try go_wp2_with fail)
            refine hK1.out _ _ (fun h => by cases h) ?_
            clear hK1
            refine wpT_done ?_
            clear g3 g4 g5
            have HBL9 := hide (below_only HBL.out.drew HO9.out (by have := HPL.out; omega) HBL.out.size)
            have HPR9 := hide (show PosR w9 w.heap.size 0 0 from only_heap HO9.out (show wr.drew.heap[w.heap.size]? = _ from HPR.out) (Nat.ne_of_lt HPL.out))
            have HNE := hide (show (71 : Int) ≠ 0 from by decide)
            clear HWS
            have hws : EZ p (StC Av bs.length cv i (.slice Ar rows.length cr) (.slice (some ⟨gb, 0, none⟩) (b.length + 1) cb) 71 o.1 o.2) w9.drew := ⟨HS9.out.h⟩
            have HWS := hide hws
            have y4 := cell_heap (j := 4) HS9.out.h rfl
            have z4 := fun x => cell_heap (j := 4) (pin_in hws x).h rfl
            have z5 := fun x => cell_heap (j := 5) (pin_in hws x).h rfl
            have z6 := fun x => cell_heap (j := 6) (pin_in hws x).h rfl
            clear hws
            go_wp2_with fail
            refine wp_region_tree (EZ p (StC Av bs.length cv i (.slice Ar rows.length cr) (.slice (some ⟨gb, 0, none⟩) (b.length + 1) cb) 71 o.1 o.2)) (fun k => ([] : List Nat).contains k) (.take [0, 1, 2, 3, 4, 5, 6, 7, 8] (.step 9 (.take [10] .done))) (by kernel_rfl) (by kernel_rfl) (by kernel_rfl) (by kernel_rfl) (.take (.cons (.zero) (.cons (.succ (.zero)) (.cons (.succ (.succ (.zero))) (.cons (.succ (.succ (.succ (.zero)))) (.cons (.succ (.succ (.succ (.succ (.zero))))) (.cons (.succ (.succ (.succ (.succ (.succ (.zero)))))) (.cons (.succ (.succ (.succ (.succ (.succ (.succ (.zero))))))) (.cons (.succ (.succ (.succ (.succ (.succ (.succ (.succ (.zero)))))))) (.cons (.succ (.succ (.succ (.succ (.succ (.succ (.succ (.succ (.zero))))))))) .nil))))))))) (.step (.succ (.succ (.succ (.succ (.succ (.succ (.succ (.succ (.succ (.zero)))))))))) rfl (.take (.cons (.succ (.succ (.succ (.succ (.succ (.succ (.succ (.succ (.succ (.succ (.zero))))))))))) .nil) .done))) ?hQ ?hS ?_
            case hQ => exact fun _ _ _ _ _ h => h
            case hS => exact HWS.out
            refine wpT_take ?_
            repeat (first | go_big_quiet_step ((fail)) | quiet_step ((fail)))
            refine wpQuiet_nil ?_
            have hp5 : PosR w9.drew w.heap.size 0 0 := HPR9.out
            have a0 := cell_heap (j := 0) hp5 rfl
            have a1 := cell_heap (j := 1) hp5 rfl
            have b0 := frozen_heap (j := 0) hp5
            have b1 := frozen_heap (j := 1) hp5
            have HB5 := hide (HBL9.out.drew)
            generalize w9.drew = x5 at *
            refine wpT_step rfl ?_
            intro K1 hK1
            go_wp2_with fail
            refine hK1.out _ _ (fun _ => pin_mem ⟨only_heap (only_set (only_set (only_refl w.heap.size x5) 0 _) 1 _) HWS.out.h (Nat.ne_of_gt HPL.out)⟩) ?_
            clear hK1
            refine wpT_take ?_
            repeat (first | go_big_quiet_step ((fail)) | quiet_step ((fail)))
            refine wpQuiet_nil ?_
            refine wpT_done ?_
            go_wp2_with fail
            refine bodyPost_ret (v := .tuple #[.slice none 0 0, .agg #[.int .i64 o.1, .int .i64 o.2], .int .i64 71]) (by simp [results, Try.results16, go_sem, a0, a1]) rfl ?_
            rw [HF2.out, HRf.out]
            rw [show refR (([] : List BTok).length + 1) rows (o :: b) [] = .err 71 o.1 o.2 from rfl]
            exact ⟨((HB5.out.setCell (p := ⟨w.heap.size, 0, none⟩) (Nat.le_refl _) _).setCell (p := ⟨w.heap.size, 1, none⟩) (Nat.le_refl _) _), HNE.out, rfl⟩
        | cons u us =>
          have hit := drop_lt hd
          have d1 : decide (i < bs.length) = true := decide_eq_true hit
          have d1' : decide ((i : Int) < (bs.length : Int)) = true := decide_eq_true (by omega)
          have d2 : ((i : Int) < (bs.length : Int)) := by omega
          have HD := hide hd
          rw [hd] at HRf hlg
          have HKD := hide (rkind_any p Av cv bs i (.slice Ar rows.length cr) (.slice Ab br.length cb) 0 0 0 wr HRd.out.st)
          rw [hd, show kindT (u :: us) = u.k from rfl] at HKD
          have HLG := hide hlg
          have HRI := hide hri
          have HBR := hide hbl
          clear hd hlg hri hbl hil hit
          by_cases k1 : u.k = 1
          · have kb : (u.k == 1) = true := by rw [k1]; decide
            have HK1 := hide k1
            clear k1
            go_wp2_with fail
            clear p1 p4 d1 d1' d2
            refine HKD.out.mono ?_
            rintro e w4 ⟨rfl, hb4⟩
            have hrd4 := HRd.out.below hb4
            have HON := hide (one_any w3 p Av cv bs i (.slice Ar rows.length cr) (.slice Ab br.length cb) rows br xs B w4 hrd4 u us HD.out HK1.out HRI.out HBR.out HK.out (Nat.le_trans HSZ.out hb4.size))
            have HBL4 := hide (below_lo HBL.out hb4 HBL.out.size)
            have HPR4 := hide (show PosR w4 w.heap.size 0 0 from heapB hb4 HPR.out)
            have HSZ4 := hide (Nat.le_trans HSZ.out hb4.size)
            clear hb4 hrd4 HKD HRd HBL HPR HSZ
            go_wp2_with fail
            clear kb
            refine HON.out.mono ?_
            rintro e w5 ⟨rfl, hb5, hres⟩
            have HRS := hide hres
            have HBL5 := hide (HBL4.out.trans (hb5.mono (Nat.le_of_lt HPL.out)))
            have HPR5 := hide (show PosR w5 w.heap.size 0 0 from (hb5.block _ HPL.out).trans HPR4.out)
            have HSZ5 := hide (Nat.le_trans HSZ4.out hb5.size)
            clear hb5 hres HON HBL4 HPR4 HSZ4
            (try go_wp2_with fail)
            go_roundg us.length
            case rel =>
              refine ⟨HBL5.out, HPR5.out, HSZ5.out, ?_⟩
              have hu : refR ((u :: us).length + 1) rows br (u :: us) = (match oneR rows br u.pos (u :: us) with | .ok rows' br' r => refR (us.length + 1) rows' br' r | .err e l c => .err e l c) := by
                conv => lhs; unfold refR
                rw [if_pos HK1.out]
                rfl
              have hres := HRS.out
              cases ho : oneR rows br u.pos (u :: us) with
              | ok rows' br' r =>
                rw [ho] at hres hu
                obtain ⟨i', vr', vb', xs', B', rfl, h1, h2, h3⟩ := hres
                have hlr := oneR_rest ho
                simp only [List.length_cons] at hlr
                exact .inl ⟨rows', br', i', _, _, _, _, h3, by omega, h1, h2, by rw [HRf.out, hu]; exact refR_fuel _ _ _ _ _ (by omega) (by omega)⟩
              | err e l c =>
                rw [ho] at hres hu
                obtain ⟨hne, i', vr', vb', h3⟩ := hres
                exact .inr ⟨e, l, c, i', _, _, hne, h3, by rw [HRf.out, hu]⟩
            case measure => have := HLG.out; simp at this; omega
          · have kb : (u.k == 1) = false := by simpa using k1
            have HK1 := hide k1
            clear k1
            go_wp2_with fail
            clear p1 p4 d1 d1' d2
            refine HKD.out.mono ?_
            rintro e w4 ⟨rfl, hb4⟩
            have hrd4 := HRd.out.below hb4
            have HRd4 := hide hrd4
            have HKE := hide (rkind_any p Av cv bs i (.slice Ar rows.length cr) (.slice Ab br.length cb) 0 0 0 w4 hrd4.st)
            rw [HD.out, show kindT (u :: us) = u.k from rfl] at HKE
            have HBL4 := hide (below_lo HBL.out hb4 HBL.out.size)
            have HPR4 := hide (show PosR w4 w.heap.size 0 0 from heapB hb4 HPR.out)
            have HSZ4 := hide (Nat.le_trans HSZ.out hb4.size)
            clear hb4 hrd4 HKD HRd HBL HPR HSZ
            go_wp2_with fail
            clear kb
            refine HKE.out.mono ?_
            rintro e w5 ⟨rfl, hb5⟩
            have HRd5 := hide (HRd4.out.below hb5)
            have HBL5 := hide (below_lo HBL4.out hb5 HBL4.out.size)
            have HPR5 := hide (show PosR w5 w.heap.size 0 0 from heapB hb5 HPR4.out)
            have HSZ5 := hide (Nat.le_trans HSZ4.out hb5.size)
            clear hb5 HKE HRd4 HBL4 HPR4 HSZ4
            have p3 := cell_heap (j := 3) HRd5.out.st.h rfl
            by_cases k3 : u.k = 3
            · have kb : (u.k == 3) = true := by rw [k3]; decide
              have HK3 := hide k3
              clear k3
              cases br with
              | nil =>
                have y1 := cell_heap (j := 1) HRd5.out.st.h rfl
                have hit := drop_lt HD.out
                have d2 : ((i : Int) < (bs.length : Int)) := by omega
                obtain ⟨tb, tq, htk, -, -, -, -⟩ := HRd5.out.st.tok hit
                subst htk
                have tl := (HRd5.out.st.tl HD.out).1
                have tc := (HRd5.out.st.tl HD.out).2
                go_wp2_with fail
                clear kb p3 y1
                refine (rfail_any p (some ⟨tb, tq, none⟩) cv bs i (.slice Ar rows.length cr) _ 130 u.l u.c w5 HRd5.out.st).mono ?_
                rintro e w6 ⟨rfl, ho6, hs6⟩
                have HO6 := hide ho6
                have HS6 := hide hs6
                clear ho6 hs6
                (try go_wp2_with fail)
                go_roundg us.length
                case rel => exact ⟨below_only HBL5.out HO6.out (Nat.le_of_lt HPL.out) HBL5.out.size, only_heap HO6.out HPR5.out (Nat.ne_of_lt HPL.out), Nat.le_trans HSZ5.out HO6.out.size, .inr ⟨130, u.l, u.c, i, _, _, by decide, HS6.out, refr_err HRf.out HK1.out (fun h => h.2 rfl)⟩⟩
                case measure => have := HLG.out; simp at this; omega
              | cons o b =>
                obtain ⟨gb, cb2, hgb, -, -⟩ := own_some HRd5.out.br (by simp)
                injection hgb with q1 q2 q3
                subst q1 q3
                have hcap := own_caps HRd5.out.br
                have hcap1 : b.length + 1 ≤ cb := by have := hcap.1; simpa using this
                have hbl2 : b.length ≤ 31 := by have := HBR.out; simp at this; omega
                have hc1 : ((b.length : Int) ≤ (cb : Int)) := by omega
                have hc2 : ((0 : Int) ≤ (b.length : Int)) := by omega
                have hws : EZ p (StC Av bs.length cv i (.slice Ar rows.length cr) (.slice (some ⟨gb, 0, none⟩) (b.length + 1) cb) 0 0 0) w5.drew := ⟨HRd5.out.st.h⟩
                have HWS := hide hws
                have g3 := fun x => cell_heap (j := 3) (u := .slice (some ⟨gb, 0, none⟩) (b.length + 1) cb) (pin_in hws x).h rfl
                clear q2 hws hcap
                go_wp2_with fail
                clear kb p3
                refine wp_region_tree (EZ p (StC Av bs.length cv i (.slice Ar rows.length cr) (.slice (some ⟨gb, 0, none⟩) (b.length + 1) cb) 0 0 0)) (fun k => ([14] : List Nat).contains k) (.take [0, 1, 2, 3, 4, 5, 6, 7, 8] (.step 9 (.take [10, 11, 12, 13] (.step 14 .done)))) (by kernel_rfl) (by kernel_rfl) (by kernel_rfl) (by kernel_rfl) (.take (.cons (.zero) (.cons (.succ (.zero)) (.cons (.succ (.succ (.zero))) (.cons (.succ (.succ (.succ (.zero)))) (.cons (.succ (.succ (.succ (.succ (.zero))))) (.cons (.succ (.succ (.succ (.succ (.succ (.zero)))))) (.cons (.succ (.succ (.succ (.succ (.succ (.succ (.zero))))))) (.cons (.succ (.succ (.succ (.succ (.succ (.succ (.succ (.zero)))))))) (.cons (.succ (.succ (.succ (.succ (.succ (.succ (.succ (.succ (.zero))))))))) .nil))))))))) (.step (.succ (.succ (.succ (.succ (.succ (.succ (.succ (.succ (.succ (.zero)))))))))) rfl (.take (.cons (.succ (.succ (.succ (.succ (.succ (.succ (.succ (.succ (.succ (.succ (.zero))))))))))) (.cons (.succ (.succ (.succ (.succ (.succ (.succ (.succ (.succ (.succ (.succ (.succ (.zero)))))))))))) (.cons (.succ (.succ (.succ (.succ (.succ (.succ (.succ (.succ (.succ (.succ (.succ (.succ (.zero))))))))))))) (.cons (.succ (.succ (.succ (.succ (.succ (.succ (.succ (.succ (.succ (.succ (.succ (.succ (.succ (.zero)))))))))))))) .nil)))) (.step (.succ (.succ (.succ (.succ (.succ (.succ (.succ (.succ (.succ (.succ (.succ (.succ (.succ (.succ (.zero))))))))))))))) rfl .done)))) ?hQ ?hS ?_
                case hQ => exact fun _ _ _ _ _ h => h
                case hS => exact HWS.out
                refine wpT_take ?_
                repeat (first | go_big_quiet_step ((fail)) | quiet_step ((fail)))
                refine wpQuiet_nil ?_
                refine wpT_step rfl ?_
                intro K1 hK1
                go_wp2_with fail
                refine hK1.out _ _ (fun _ => pin_mem HWS.out) ?_
                clear hK1
                refine wpT_take ?_
                repeat (first | go_big_quiet_step ((fail)) | quiet_step ((fail)))
                refine wpQuiet_nil ?_
                refine wpT_step rfl ?_
                intro K1 hK1
                have HRd6 := hide (HRd5.out.below (Below.refl _ _).drew)
                have HBL6 := hide HBL5.out.drew
                have HPR6 := hide (show PosR w5.drew w.heap.size 0 0 from HPR5.out)
                have HSZ6 := hide (show w3.heap.size ≤ w5.drew.heap.size from HSZ5.out)
                clear HRd5 HBL5 HPR5 HSZ5 g3 HWS
                generalize w5.drew = w6 at *
                have y3 := cell_heap (j := 3) HRd6.out.st.h rfl
                have f3 := frozen_heap (j := 3) HRd6.out.st.h
                have HRd7 := hide HRd6.out.pop
                go_wp2_with fail
                refine hK1.out _ _ (fun h => by cases h) ?_
                clear hK1 y3 f3
                refine wpT_done ?_
                have y1 := cell_heap (j := 1) HRd7.out.st.h rfl
                have f1 := frozen_heap (j := 1) HRd7.out.st.h
                have hit := drop_lt HD.out
                have HRd8 := hide (HRd7.out.step hit)
                go_wp2_with fail
                go_roundg us.length
                case rel =>
                  have ho : Only p w6 ((w6.setCell ⟨p, 3, none⟩ (.slice (some ⟨gb, 0, none⟩) b.length cb)).setCell ⟨p, 1, none⟩ (.int .i64 (↑i + 1))) := only_set (only_set (only_refl p w6) 3 _) 1 _
                  refine ⟨below_only HBL6.out ho (Nat.le_of_lt HPL.out) HBL6.out.size, only_heap ho HPR6.out (Nat.ne_of_lt HPL.out), Nat.le_trans HSZ6.out ho.size, .inl ⟨rows, b, i + 1, _, _, _, _, HRd8.out, by rw [drop_next HD.out]; exact Nat.le_refl _, by have := HRI.out; omega, by omega, ?_⟩⟩
                  rw [HRf.out, drop_next HD.out]
                  conv => lhs; unfold refR
                  rw [if_neg HK1.out, if_pos ⟨HK3.out, by simp⟩]
                  rfl
                case measure => have := HLG.out; simp at this; omega
            · have kb : (u.k == 3) = false := by simpa using k3
              have HK3 := hide k3
              clear k3
              have y1 := cell_heap (j := 1) HRd5.out.st.h rfl
              have hit := drop_lt HD.out
              have d2 : ((i : Int) < (bs.length : Int)) := by omega
              obtain ⟨tb, tq, htk, -, -, -, -⟩ := HRd5.out.st.tok hit
              subst htk
              have tl := (HRd5.out.st.tl HD.out).1
              have tc := (HRd5.out.st.tl HD.out).2
              go_wp2_with fail
              clear kb p3 y1
              refine (rfail_any p (some ⟨tb, tq, none⟩) cv bs i (.slice Ar rows.length cr) _ 130 u.l u.c w5 HRd5.out.st).mono ?_
              rintro e w6 ⟨rfl, ho6, hs6⟩
              have HO6 := hide ho6
              have HS6 := hide hs6
              clear ho6 hs6
              (try go_wp2_with fail)
              go_roundg us.length
              case rel => exact ⟨below_only HBL5.out HO6.out (Nat.le_of_lt HPL.out) HBL5.out.size, only_heap HO6.out HPR5.out (Nat.ne_of_lt HPL.out), Nat.le_trans HSZ5.out HO6.out.size, .inr ⟨130, u.l, u.c, i, _, _, by decide, HS6.out, refr_err HRf.out HK1.out (fun h => HK3.out h.1)⟩⟩
              case measure => have := HLG.out; simp at this; omega
      · have HRf := hide hRf
        have HNE := hide hne2
        have HST := hide hst
        have HBL9 := HBL
        have HPR9 := HPR
        have p1 := cell_heap (j := 1) hst.h rfl
        have hb1 : (e == 0) = false := by simpa using hne2
        have hb2 : (e != 0) = true := bne_iff_ne.2 hne2
        clear hRf hne2 hst HBL HPR
        rcases Nat.lt_or_ge i bs.length with hlt | hge
        · have d1 : decide (i < bs.length) = true := decide_eq_true hlt
          have d1' : decide ((i : Int) < (bs.length : Int)) = true := decide_eq_true (by omega)
          have hws : EZ p (StC Av bs.length cv i vr vb e l2 c2) wr.drew := ⟨HST.out.h⟩
          have HWS := hide hws
          have y4 := cell_heap (j := 4) HST.out.h rfl
          have z4 := fun x => cell_heap (j := 4) (pin_in hws x).h rfl
          have z5 := fun x => cell_heap (j := 5) (pin_in hws x).h rfl
          have z6 := fun x => cell_heap (j := 6) (pin_in hws x).h rfl
          clear hws
          go_wp2_with fail
          refine wp_region_tree (EZ p (StC Av bs.length cv i vr vb e l2 c2)) (fun k => ([] : List Nat).contains k) (.take [0, 1, 2, 3, 4, 5, 6, 7, 8] (.step 9 (.take [10] .done))) (by kernel_rfl) (by kernel_rfl) (by kernel_rfl) (by kernel_rfl) (.take (.cons (.zero) (.cons (.succ (.zero)) (.cons (.succ (.succ (.zero))) (.cons (.succ (.succ (.succ (.zero)))) (.cons (.succ (.succ (.succ (.succ (.zero))))) (.cons (.succ (.succ (.succ (.succ (.succ (.zero)))))) (.cons (.succ (.succ (.succ (.succ (.succ (.succ (.zero))))))) (.cons (.succ (.succ (.succ (.succ (.succ (.succ (.succ (.zero)))))))) (.cons (.succ (.succ (.succ (.succ (.succ (.succ (.succ (.succ (.zero))))))))) .nil))))))))) (.step (.succ (.succ (.succ (.succ (.succ (.succ (.succ (.succ (.succ (.zero)))))))))) rfl (.take (.cons (.succ (.succ (.succ (.succ (.succ (.succ (.succ (.succ (.succ (.succ (.zero))))))))))) .nil) .done))) ?hQ ?hS ?_
          case hQ => exact fun _ _ _ _ _ h => h
          case hS => exact HWS.out
          refine wpT_take ?_
          repeat (first | go_big_quiet_step ((fail)) | quiet_step ((fail)))
          refine wpQuiet_nil ?_
          have hp5 : PosR wr.drew w.heap.size 0 0 := HPR9.out
          have a0 := cell_heap (j := 0) hp5 rfl
          have a1 := cell_heap (j := 1) hp5 rfl
          have b0 := frozen_heap (j := 0) hp5
          have b1 := frozen_heap (j := 1) hp5
          have HB5 := hide (HBL9.out.drew)
          generalize wr.drew = x5 at *
          refine wpT_step rfl ?_
          intro K1 hK1
          go_wp2_with fail
          refine hK1.out _ _ (fun _ => pin_mem ⟨only_heap (only_set (only_set (only_refl w.heap.size x5) 0 _) 1 _) HWS.out.h (Nat.ne_of_gt HPL.out)⟩) ?_
          clear hK1
          refine wpT_take ?_
          repeat (first | go_big_quiet_step ((fail)) | quiet_step ((fail)))
          refine wpQuiet_nil ?_
          refine wpT_done ?_
          go_wp2_with fail
          refine bodyPost_ret (v := .tuple #[.slice none 0 0, .agg #[.int .i64 l2, .int .i64 c2], .int .i64 e]) (by simp [results, Try.results16, go_sem, a0, a1]) rfl ?_
          rw [HF2.out, HRf.out]
          exact ⟨((HB5.out.setCell (p := ⟨w.heap.size, 0, none⟩) (Nat.le_refl _) _).setCell (p := ⟨w.heap.size, 1, none⟩) (Nat.le_refl _) _), HNE.out, rfl⟩
        · have d1 : decide (i < bs.length) = false := decide_eq_false (by omega)
          have d1' : decide ((i : Int) < (bs.length : Int)) = false := decide_eq_false (by omega)
          have hws : EZ p (StC Av bs.length cv i vr vb e l2 c2) wr.drew := ⟨HST.out.h⟩
          have HWS := hide hws
          have y4 := cell_heap (j := 4) HST.out.h rfl
          have z4 := fun x => cell_heap (j := 4) (pin_in hws x).h rfl
          have z5 := fun x => cell_heap (j := 5) (pin_in hws x).h rfl
          have z6 := fun x => cell_heap (j := 6) (pin_in hws x).h rfl
          clear hws
          go_wp2_with fail
          refine wp_region_tree (EZ p (StC Av bs.length cv i vr vb e l2 c2)) (fun k => ([] : List Nat).contains k) (.take [0, 1, 2, 3, 4, 5, 6, 7, 8] (.step 9 (.take [10] .done))) (by kernel_rfl) (by kernel_rfl) (by kernel_rfl) (by kernel_rfl) (.take (.cons (.zero) (.cons (.succ (.zero)) (.cons (.succ (.succ (.zero))) (.cons (.succ (.succ (.succ (.zero)))) (.cons (.succ (.succ (.succ (.succ (.zero))))) (.cons (.succ (.succ (.succ (.succ (.succ (.zero)))))) (.cons (.succ (.succ (.succ (.succ (.succ (.succ (.zero))))))) (.cons (.succ (.succ (.succ (.succ (.succ (.succ (.succ (.zero)))))))) (.cons (.succ (.succ (.succ (.succ (.succ (.succ (.succ (.succ (.zero))))))))) .nil))))))))) (.step (.succ (.succ (.succ (.succ (.succ (.succ (.succ (.succ (.succ (.zero)))))))))) rfl (.take (.cons (.succ (.succ (.succ (.succ (.succ (.succ (.succ (.succ (.succ (.succ (.zero))))))))))) .nil) .done))) ?hQ ?hS ?_
          case hQ => exact fun _ _ _ _ _ h => h
          case hS => exact HWS.out
          refine wpT_take ?_
          repeat (first | go_big_quiet_step ((fail)) | quiet_step ((fail)))
          refine wpQuiet_nil ?_
          have hp5 : PosR wr.drew w.heap.size 0 0 := HPR9.out
          have a0 := cell_heap (j := 0) hp5 rfl
          have a1 := cell_heap (j := 1) hp5 rfl
          have b0 := frozen_heap (j := 0) hp5
          have b1 := frozen_heap (j := 1) hp5
          have HB5 := hide (HBL9.out.drew)
          generalize wr.drew = x5 at *
          refine wpT_step rfl ?_
          intro K1 hK1
          go_wp2_with fail
          refine hK1.out _ _ (fun _ => pin_mem ⟨only_heap (only_set (only_set (only_refl w.heap.size x5) 0 _) 1 _) HWS.out.h (Nat.ne_of_gt HPL.out)⟩) ?_
          clear hK1
          refine wpT_take ?_
          repeat (first | go_big_quiet_step ((fail)) | quiet_step ((fail)))
          refine wpQuiet_nil ?_
          refine wpT_done ?_
          go_wp2_with fail
          refine bodyPost_ret (v := .tuple #[.slice none 0 0, .agg #[.int .i64 l2, .int .i64 c2], .int .i64 e]) (by simp [results, Try.results16, go_sem, a0, a1]) rfl ?_
          rw [HF2.out, HRf.out]
          exact ⟨((HB5.out.setCell (p := ⟨w.heap.size, 0, none⟩) (Nat.le_refl _) _).setCell (p := ⟨w.heap.size, 1, none⟩) (Nat.le_refl _) _), HNE.out, rfl⟩
  · have hne : (r != 0) = true := bne_iff_ne.2 hr
    have HF2 := hide (show rparseF (T s) = .err r l c from by rw [HF.out, if_neg hr])
    have HR := hide hr
    have q0 := fun o => cell_heap (j := 0) (heap_old (p := o) hp1) rfl
    have q1 := fun o => cell_heap (j := 1) (heap_old (p := o) hp1) rfl
    have f0 := fun o => frozen_heap (j := 0) (heap_old (p := o) hp1)
    have f1 := fun o => frozen_heap (j := 1) (heap_old (p := o) hp1)
    clear hsz hr hcaps hown hb hp1 hbw HF
    go_wp2_with fail
    go_region
    go_wp2_with fail
    refine bodyPost_ret (v := .tuple #[.slice none 0 0, .agg #[.int .i64 l, .int .i64 c], .int .i64 r]) (by simp [results, Try.results16, go_sem, q0, q1]) rfl ?_
    rw [HF2.out]
    exact ⟨(((HB.out.alloc HB.out.size _).setCell (p := ⟨w.heap.size, 0, none⟩) (Nat.le_refl _) _).setCell (p := ⟨w.heap.size, 1, none⟩) (Nat.le_refl _) _).drew, HR.out, rfl⟩
end Go.Proofs.Ytihmmmodimionaa.Tr
/- What spoil leaves: rows keep their kinds and sizes; who reads a forest's shape alone is not misled. -/
namespace Go.Proofs.Ytihmmmodimionaa.Tr
open Go.RowKit Go.Proofs.Ytihmmmodimionaa Go.Proofs.Ytihmmmodimionaa.Lx

/-- a row of the call's own, as long as N at most -/
def RwO (w : World) (P : Nat → Prop) (t : TypeId) (size N : Nat) (v : Value) : Prop := ∃ n zs, n ≤ N ∧ w.ownsRow 0 t size v n zs ∧ ∀ g, v.ownBlock = some g → P g
/-- a forest's shape -/
def Sh (w : World) (P : Nat → Prop) (N : Nat) : Fo → List Value → Prop
  | .nil, xs => xs = []
  | .cons _ _ _ K R, xs => ∃ vw vp b vk ys xs', xs = vw :: vp :: b :: vk :: xs' ∧ RwO w P 9 1 N vw ∧ RwO w P 24 2 N vp ∧ (w.ownsRow 0 44 4 vk K.len ys ∧ ∀ g, vk.ownBlock = some g → P g) ∧ Sh w P N K ys ∧ Sh w P N R xs'
theorem FoS.sh {w : World} {B : Nat → Prop} {N : Nat} : ∀ {F : Fo} {xs : List Value}, FoS w B F xs → szF F ≤ N → Sh w B N F xs
  | .nil, _, h, _ => h
  | .cons ws ps b0 K R, xs, h, hN => by
    obtain ⟨vw, vp, b, vk, ys, xs', zw, zp, e, h1, h2, h3, h4, h5⟩ := h
    have hz : szF (.cons ws ps b0 K R) = ws.length + ps.length + 1 + szF K + szF R := rfl
    exact ⟨vw, vp, b, vk, ys, xs', e, ⟨_, _, by omega, h1⟩, ⟨_, _, by omega, h2⟩, h3, FoS.sh h4 (by omega), FoS.sh h5 (by omega)⟩
def KT (t : TypeId) (w w' : World) : Prop := ∀ (g : Nat) (cur : Array Value), w.heap[g]? = some (Obj.cells cur t (0, 0)) → ∃ cur', w'.heap[g]? = some (Obj.cells cur' t (0, 0)) ∧ cur'.size = cur.size
theorem KT.refl (t : TypeId) (w : World) : KT t w w := fun _ cur h => ⟨cur, h, rfl⟩
theorem KT.trans {t : TypeId} {w w1 w2 : World} (h : KT t w w1) (k : KT t w1 w2) : KT t w w2 := fun g cur hg => by
  obtain ⟨c1, h1, e1⟩ := h g cur hg
  obtain ⟨c2, h2, e2⟩ := k g c1 h1
  exact ⟨c2, h2, e2.trans e1⟩
theorem RwO.kt {w w' : World} {P : Nat → Prop} {t : TypeId} {size N N' : Nat} {v : Value} (h : RwO w P t size N v) (hN : N ≤ N') (k : KT t w w') : RwO w' P t size N' v := by
  obtain ⟨n, zs, hn, ho, hp⟩ := h
  rcases ho.2 with ⟨h1, h2⟩ | ⟨g, cap, cur, rfl, hb, hg, h1, h2, h3, h4⟩
  · exact ⟨n, zs, Nat.le_trans hn hN, ⟨ho.1, .inl ⟨h1, h2⟩⟩, hp⟩
  · obtain ⟨cur', hg', hs⟩ := k g cur hg
    refine ⟨n, cur'.toList.take (n * size), Nat.le_trans hn hN, ⟨?_, .inr ⟨g, cap, cur', rfl, hb, hg', h1, h2, by rw [hs, h3], rfl⟩⟩, hp⟩
    rw [List.length_take, Array.length_toList, hs, h3, Nat.min_eq_left]
    exact Nat.mul_le_mul_right _ h1
/-- what is left as it was, for who reads shapes -/
structure Tm (P : Nat → Prop) (N : Nat) (w w' : World) : Prop where
  os : w'.os = w.os
  tape : w'.tape = w.tape
  output : w'.output = w.output
  size : w.heap.size ≤ w'.heap.size
  far : ∀ g, g < w.heap.size → ¬ P g → w'.heap[g]? = w.heap[g]?
  str : KT 9 w w'
  pos : KT 24 w w'
  nod : ∀ (g : Nat) (cur : Array Value), w.heap[g]? = some (Obj.cells cur 44 (0, 0)) → ∃ cur', w'.heap[g]? = some (Obj.cells cur' 44 (0, 0)) ∧ cur'.size = cur.size ∧ ∀ j : Nat, cur'[j]? = cur[j]? ∨ (j % 4 = 0 ∧ ∃ u, cur'[j]? = some u ∧ RwO w' P 9 1 N u)
theorem Tm.refl (P : Nat → Prop) (N : Nat) (w : World) : Tm P N w w :=
  ⟨rfl, rfl, rfl, Nat.le_refl _, fun _ _ _ => rfl, KT.refl _ w, KT.refl _ w, fun _ cur h => ⟨cur, h, rfl, fun _ => .inl rfl⟩⟩
theorem Tm.trans {P : Nat → Prop} {N N' : Nat} {w w1 w2 : World} (h : Tm P N w w1) (k : Tm P N' w1 w2) (hN : N ≤ N') : Tm P N' w w2 := by
  refine ⟨k.os.trans h.os, k.tape.trans h.tape, k.output.trans h.output, Nat.le_trans h.size k.size, fun g hg hp => (k.far g (Nat.lt_of_lt_of_le hg h.size) hp).trans (h.far g hg hp), h.str.trans k.str, h.pos.trans k.pos, fun g cur hg => ?_⟩
  obtain ⟨c1, h1, e1, q1⟩ := h.nod g cur hg
  obtain ⟨c2, h2, e2, q2⟩ := k.nod g c1 h1
  refine ⟨c2, h2, e2.trans e1, fun j => ?_⟩
  rcases q2 j with e | e
  · rcases q1 j with e' | ⟨hj, u, hu, ho⟩
    · exact .inl (e.trans e')
    · exact .inr ⟨hj, u, e.trans hu, ho.kt hN k.str⟩
  · exact .inr e
theorem Tm.wide {P : Nat → Prop} {N N' : Nat} {w w1 : World} (h : Tm P N w w1) (hN : N ≤ N') : Tm P N' w w1 := h.trans (Tm.refl P N' w1) hN
/-- the cells of a row of statements, in another world -/
def XS (w' : World) (P : Nat → Prop) (N : Nat) (xs xs' : List Value) : Prop := xs'.length = xs.length ∧ ∀ j : Nat, xs'[j]? = xs[j]? ∨ (j % 4 = 0 ∧ ∃ u, xs'[j]? = some u ∧ RwO w' P 9 1 N u)
theorem XS.refl (w : World) (P : Nat → Prop) (N : Nat) (xs : List Value) : XS w P N xs xs := ⟨rfl, fun _ => .inl rfl⟩
theorem Tm.row {P : Nat → Prop} {N base n : Nat} {w w' : World} {v : Value} {ys : List Value} (k : Tm P N w w') (h : w.ownsRow base 44 4 v n ys) : ∃ ys', w'.ownsRow base 44 4 v n ys' ∧ XS w' P N ys ys' := by
  rcases h.2 with ⟨h1, h2⟩ | ⟨g, cap, cur, rfl, hb, hg, h1, h2, h3, h4⟩
  · exact ⟨ys, ⟨h.1, .inl ⟨h1, h2⟩⟩, XS.refl _ _ _ _⟩
  · obtain ⟨cur', hg', hs, hq⟩ := k.nod g cur hg
    have hl : (cur'.toList.take (n * 4)).length = n * 4 := by
      rw [List.length_take, Array.length_toList, hs, h3, Nat.min_eq_left]
      exact Nat.mul_le_mul_right _ h1
    refine ⟨cur'.toList.take (n * 4), ⟨hl, .inr ⟨g, cap, cur', rfl, hb, hg', h1, h2, by rw [hs, h3], rfl⟩⟩, by rw [hl, h.1], fun j => ?_⟩
    rw [← h4, List.getElem?_take, List.getElem?_take, Array.getElem?_toList, Array.getElem?_toList]
    by_cases hj : j < n * 4
    · rw [if_pos hj, if_pos hj]
      exact hq j
    · rw [if_neg hj, if_neg hj]
      exact .inl rfl
theorem Sh.tame {P : Nat → Prop} {N N' : Nat} {w w' : World} (k : Tm P N' w w') (hN : N ≤ N') : ∀ {F : Fo} {xs xs' : List Value}, Sh w P N F xs → XS w' P N' xs xs' → Sh w' P N' F xs'
  | .nil, xs, xs', h, hx => by
    rw [show xs = [] from h] at hx
    exact List.eq_nil_of_length_eq_zero hx.1
  | .cons _ _ _ K R, xs, xs', h, hx => by
    obtain ⟨vw, vp, b, vk, ys, xs1, rfl, h1, h2, h3, h4, h5⟩ := h
    obtain ⟨hl, hj⟩ := hx
    match xs', hl, hj with
    | a0 :: a1 :: a2 :: a3 :: xs2, hl, hj =>
      obtain ⟨ys', hy, hyx⟩ := k.row h3.1
      have e1 : a1 = vp := by
        rcases hj 1 with e | ⟨e, _⟩
        · simpa using e
        · exact absurd e (by decide)
      have e2 : a2 = b := by
        rcases hj 2 with e | ⟨e, _⟩
        · simpa using e
        · exact absurd e (by decide)
      have e3 : a3 = vk := by
        rcases hj 3 with e | ⟨e, _⟩
        · simpa using e
        · exact absurd e (by decide)
      subst e1 e2 e3
      refine ⟨a0, a1, a2, a3, ys', xs2, rfl, ?_, h2.kt hN k.pos, ⟨hy, h3.2⟩, Sh.tame k hN h4 hyx, Sh.tame k hN h5 ⟨by simp at hl; omega, fun j => ?_⟩⟩
      · rcases hj 0 with e | ⟨_, u, e, hu⟩
        · obtain rfl : a0 = vw := by simpa using e
          exact h1.kt hN k.str
        · obtain rfl : a0 = u := by simpa using e
          exact hu
      · have h6 := hj (j + 4)
        rw [show (j + 4) % 4 = j % 4 by omega] at h6
        simpa using h6
    | [], hl, _ => simp at hl
    | [_], hl, _ => simp at hl
    | [_, _], hl, _ => simp at hl
    | [_, _, _], hl, _ => simp at hl
theorem XS.drop {w : World} {P : Nat → Prop} {N i : Nat} {xs xs' : List Value} (h : XS w P N xs xs') : XS w P N (xs.drop (i * 4)) (xs'.drop (i * 4)) := by
  refine ⟨by rw [List.length_drop, List.length_drop, h.1], fun j => ?_⟩
  rw [List.getElem?_drop, List.getElem?_drop]
  have := h.2 (i * 4 + j)
  rwa [show (i * 4 + j) % 4 = j % 4 by omega] at this
theorem XS.set {w : World} {P : Nat → Prop} {N i : Nat} {xs : List Value} {u : Value} (h : i * 4 < xs.length) (hu : RwO w P 9 1 N u) : XS w P N xs (xs.set (i * 4) u) := by
  refine ⟨List.length_set, fun j => ?_⟩
  rw [List.getElem?_set]
  by_cases hj : i * 4 = j
  · subst hj
    rw [if_pos rfl, if_pos h]
    exact .inr ⟨by omega, u, rfl, hu⟩
  · rw [if_neg hj]
    exact .inl rfl
section
variable {P : Nat → Prop} {N : Nat} {w w' : World}
/-- new blocks, and a block of another kind -/
theorem tm_one {g : Nat} {t : TypeId} {cur cur' : Array Value} (ht : t = 9 ∨ t = 24) (hg : w.heap[g]? = some (Obj.cells cur t (0, 0))) (hp : P g) (hr : w.grownBy w' (some g)) (hg' : w'.heap[g]? = some (Obj.cells cur' t (0, 0))) (hs : cur'.size = cur.size) : Tm P N w w' := by
  have hk : ∀ (q : Nat) (c : Array Value) (u : TypeId), w.heap[q]? = some (Obj.cells c u (0, 0)) → q ≠ g → w'.heap[q]? = some (Obj.cells c u (0, 0)) := fun q c u hq hne => (hr.block q (lt_heap hq) (fun e => hne (by injection e))).trans hq
  have kt : ∀ u, KT u w w' := fun u q c hq => by
    by_cases e : q = g
    · subst e
      rw [hg] at hq
      cases hq
      exact ⟨cur', hg', hs⟩
    · exact ⟨c, hk q c u hq e, rfl⟩
  refine ⟨hr.os, hr.tape, hr.output, hr.size, fun q hq hne => hr.block q hq (fun e => by injection e with e; subst e; exact hne hp), kt _, kt _, fun q c hq => ?_⟩
  by_cases e : q = g
  · subst e
    rw [hg] at hq
    injection hq with hq
    injection hq with _ h2 _
    rcases ht with h | h <;> rw [h] at h2 <;> exact absurd h2 (by decide)
  · exact ⟨c, hk q c _ hq e, rfl, fun _ => .inl rfl⟩
theorem tm_below (h : Below w.heap.size w w') : Tm P N w w' := by
  have hk : ∀ (q : Nat) (o : Obj), w.heap[q]? = some o → w'.heap[q]? = some o := fun q o hq => (h.block q (lt_heap hq)).trans hq
  exact ⟨h.os, h.tape, h.output, h.size, fun q hq _ => h.block q hq, fun q c hq => ⟨c, hk q _ hq, rfl⟩, fun q c hq => ⟨c, hk q _ hq, rfl⟩, fun q c hq => ⟨c, hk q _ hq, rfl, fun _ => .inl rfl⟩⟩
/-- a statement's words are kept anew -/
theorem tm_words {g i : Nat} {cur : Array Value} {u : Value} (hg : w.heap[g]? = some (Obj.cells cur 44 (0, 0))) (hp : P g) (hu : RwO w P 9 1 N u) : Tm P N w (w.setCell ⟨g, i * 4, none⟩ u) := by
  have ho : Only g w (w.setCell ⟨g, i * 4, none⟩ u) := only_set (only_refl g w) (i * 4) u
  have hg' := heap_set (j := i * 4) (u := u) hg
  have hk : ∀ (q : Nat) (c : Array Value) (t : TypeId), w.heap[q]? = some (Obj.cells c t (0, 0)) → q ≠ g → (w.setCell ⟨g, i * 4, none⟩ u).heap[q]? = some (Obj.cells c t (0, 0)) := fun q c t hq hne => (ho.block q (lt_heap hq) (fun e => hne (by injection e))).trans hq
  have kt : ∀ t, t ≠ 44 → KT t w (w.setCell ⟨g, i * 4, none⟩ u) := fun t ht q c hq => by
    by_cases e : q = g
    · subst e
      rw [hg] at hq
      injection hq with hq
      injection hq with _ h2 _
      exact absurd h2.symm ht
    · exact ⟨c, hk q c t hq e, rfl⟩
  refine ⟨ho.os, ho.tape, ho.output, ho.size, fun q hq hne => ho.block q hq (fun e => by injection e with e; subst e; exact hne hp), kt _ (by decide), kt _ (by decide), fun q c hq => ?_⟩
  by_cases e : q = g
  · subst e
    rw [hg] at hq
    cases hq
    refine ⟨_, hg', by simp, fun j => ?_⟩
    by_cases hj : i * 4 = j
    · subst hj
      by_cases hl : i * 4 < cur.size
      · exact .inr ⟨by omega, u, by simp [Array.getElem?_setIfInBounds, hl], hu.kt (Nat.le_refl _) (kt _ (by decide))⟩
      · exact .inl (by simp [Array.getElem?_setIfInBounds, hl])
    · exact .inl (by simp [Array.getElem?_setIfInBounds, hj])
  · exact ⟨c, hk q c _ hq e, rfl, fun _ => .inl rfl⟩
end
/-- append onto a slice of the call's own: its old block keeps its kind and size -/
theorem append_kept {Pg : Program} {w : World} {t ty e : TypeId} {i : TypeInfo} {z : Value} {bytes : Nat} (ht : Pg.underlying t = some (.slice e)) (hi : Pg.info? e = some i) (hz : i.zero = some z) (hs1 : i.size = 1) (hby : i.bytes = bytes)
    {g n cap : Nat} {cur : Array Value} {xs : List Value} (hown : w.ownsRow 0 e 1 (.slice (some ⟨g, 0, none⟩) n cap) n xs) (hg : w.heap[g]? = some (Obj.cells cur e (0, 0))) {ad : Addr} {c : Nat} {u : Value} (hnews : w.cell? ad = some u) (h1 : u.oneCell' = true) (h63 : n + 1 ≤ maxLen) (hbytes : (n + 1) * bytes ≤ 140737488355328)
    {v' : Value} {w' : World} (hr : (Builtin.append_ #[t, t] ty #[.slice (some ⟨g, 0, none⟩) n cap, .slice (some ad) 1 c]).run Pg w = .ok v' w') : ∃ cur', w'.heap[g]? = some (Obj.cells cur' e (0, 0)) ∧ cur'.size = cur.size := by
  rcases hown.2 with ⟨h, _⟩ | ⟨g', cap', cur', hv, _, hg', hnc, hcm, hcs, _⟩
  · cases h
  injection hv with h1' h2' h3'
  injection h1' with h1'
  injection h1' with h1'
  subst h1' h3'
  rw [hg] at hg'
  cases hg'
  have hnw : ∀ (j : Nat) (x : Value), [u][j]? = some x → w.cell? (ad.add j) = some x := by
    intro j x hj
    match j, hj with
    | 0, hj => simp at hj; subst hj; exact hnews
  subst hby
  by_cases hroom : n + 1 ≤ cap
  · have := run_append_room (P := Pg) w t ty e i ht hi g n cap cur hg ad 1 c [u] (by rw [hs1]; rfl) hnw (by simpa using h1) hroom (by rw [hs1, hcs]; simp; omega)
    rw [this] at hr
    injection hr with _ hr
    subst hr
    refine ⟨_, setRow_heap w g cur _ e _ hg, ?_⟩
    simp only [List.size_toArray, List.length_append, List.length_take, List.length_drop, Array.length_toList, List.length_cons, List.length_nil, hs1]
    omega
  · have := run_append_grow (P := Pg) w t ty e i z ht hi hz ⟨g, 0, none⟩ n cap xs (by rw [hs1]; exact hown.1) (hown.cells (g := g) rfl) ad 1 c [u] (by rw [hs1]; rfl) hnw (by omega) (by simp only [maxLen] at h63; omega) (growslice_fits (by omega) hbytes)
    rw [this] at hr
    injection hr with _ hr
    subst hr
    exact ⟨cur, (heap_alloc_old w.drew _ (lt_heap hg)).trans hg, rfl⟩
end Go.Proofs.Ytihmmmodimionaa.Tr
