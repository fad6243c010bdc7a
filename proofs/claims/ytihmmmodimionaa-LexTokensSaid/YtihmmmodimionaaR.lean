import Derived.Test.YtihmmmodimionaaCl
import Derived.Test.YtihmmmodimionaaT
namespace Go.Proofs.Ytihmmmodimionaa.Lx
open Go.RowKit

theorem infoRef : (Try.prog.info? 75).map (fun i => (i.zero, i.size, i.bytes)) = some (some (.agg #[.int .u8 0, .string { data := #[] }, .int .i64 0, .int .i64 0]), 4, 40) := by kernel_rfl

/-- what the document's Tokens hands back -/
def RefOut (ts : List Tok) (p : Int × Int × Int) (w : World) (e : Ending) (w' : World) : Prop :=
  ∃ (v : Value) (bs : List BTok), bs.map BTok.tok = ts ∧ e = .returned (.tuple #[v, .agg #[.int .i64 p.1, .int .i64 p.2.1], .int .i64 p.2.2]) ∧ w'.ownsRow w.heap.size 75 4 v bs.length (bs.flatMap BTok.cells) ∧ Below w.heap.size w w' ∧ bs.length ≤ 65536
/-- what is left to cut from byte i on -/
def Left (s : ByteArray) (i : Nat) (d : List Tok) : Prop :=
  ∃ f, ((T s).drop i).length ≤ f ∧ toks (T s).length (T s) 1 1 = appT d (toks f ((T s).drop i) (adv ((T s).take i) 1 1).1 (adv ((T s).take i) 1 1).2)
theorem left_more {s : ByteArray} {i : Nat} {d : List Tok} (h : Left s i d) (hi : i < s.size) {is : Bool} {k : Int} {t : List UInt8} {n : Nat} (hst : step ((T s).drop i) = ⟨false, is, k, t, n⟩) :
    1 ≤ n ∧ i + n ≤ s.size ∧ Left s (i + n) (d ++ (if is then [⟨k, t, (adv ((T s).take i) 1 1).1, (adv ((T s).take i) 1 1).2⟩] else [])) := by
  obtain ⟨f, hf, he⟩ := h
  have hne : (T s).drop i ≠ [] := by rw [T_drop s i hi]; simp
  have hn := step_n _ hne (by rw [hst])
  obtain ⟨f', h1, h2⟩ := toks_more hf hne he (by rw [hst]) hn.1
  rw [hst] at hn h1 h2
  simp only at hn h1 h2
  rw [List.length_drop, T_len] at hn
  refine ⟨hn.1, by omega, f', ?_, ?_⟩
  · rw [List.drop_drop] at h1; exact h1
  · rw [h2, List.drop_drop, List.take_add, adv_append]
theorem left_err {s : ByteArray} {i : Nat} {d : List Tok} (h : Left s i d) (hc : (chk (T s)).2.2 = 0) (hi : i < s.size) (hst : (step ((T s).drop i)).err = true) : tokRes (T s) = ([], (adv ((T s).take i) 1 1).1, (adv ((T s).take i) 1 1).2, 71) := by
  obtain ⟨f, hf, he⟩ := h
  have hne : (T s).drop i ≠ [] := by rw [T_drop s i hi]; simp
  exact tokRes_err hc (toks_err hf hne he hst)
theorem left_end {s : ByteArray} {i : Nat} {d : List Tok} (h : Left s i d) (hc : (chk (T s)).2.2 = 0) (hi : ¬ i < s.size) : tokRes (T s) = (d, 0, 0, 0) := by
  obtain ⟨f, hf, he⟩ := h
  rw [List.drop_eq_nil_of_le (by rw [T_len]; omega), toks_nil] at he
  have := tokRes_ok hc he
  simpa using this
theorem below_grown {w w' : World} (h : Below w.heap.size w w') (row : Option Nat) : w.grownBy w' row := ⟨h.os, h.tape, h.output, h.size, fun k hk _ => h.block k hk⟩
theorem own_below {w w' : World} {base size n : Nat} {e : TypeId} {v : Value} {xs : List Value} (ho : w.ownsRow base e size v n xs) (h : Below w.heap.size w w') : w'.ownsRow base e size v n xs := by
  by_cases hn : v.ownBlock = none
  · exact ho.kept (below_grown h none) (.inl hn)
  · exact ho.kept (below_grown h none) (.inr hn)
/-- what stands at the head of each round -/
structure RL (s : ByteArray) (w : World) (v : Value) (wr : World) (i : Nat) (bs : List BTok) : Prop where
  le : i ≤ s.size
  len : bs.length + (s.size - i) ≤ 65536
  own : wr.ownsRow w.heap.size 75 4 v bs.length (bs.flatMap BTok.cells)
  p : PosR wr w.heap.size 0 0
  bel : Below w.heap.size w wr
  eq : Left s i (bs.map BTok.tok)

set_option maxRecDepth 100000 in
set_option maxHeartbeats 4000000 in
theorem ref_ok (s : ByteArray) (w : World) (hs : (chk (T s)).2.2 = 0) :
    Calls Try.prog 9 #[.string s] w (RefOut (tokRes (T s)).1 (tokRes (T s)).2 w) := by
  have hlen := chk_len hs
  rw [T_len] at hlen
  have hc := fun o => ref_check s (w.alloc o) (by unfold maxLen; omega)
  simp only [hs] at hc
  have HC := hide hc
  have HS := hide hs
  clear hc hs
  go_enter Try.func9, Try.ntmps9
  go_wp2_with fail
  refine (HC.out _).mono ?_; rintro e w1 ⟨rfl, hb1⟩
  have hp1 : PosR w1 w.heap.size 0 0 := heapB hb1 (heap_new w _)
  have hbw : Below w.heap.size w w1 := below_wide (bel_one _ _) hb1
  go_wp2_with fail
  have HRL : Hid (RL s w (.slice none 0 0) (w1.alloc (Obj.cells #[.int .i64 (chk (T s)).1, .int .i64 (chk (T s)).2.1] 24)) 0 []) := by
    exact ⟨Nat.zero_le _, by simpa using hlen, World.ownsRow_nil _ _ _ _, heap_old hp1, below_wide hbw (bel_one w1 _), _, Nat.le_refl _, (appT_nil _).symm⟩
  clear hp1 hbw hb1 HC
  generalize (w1.alloc (Obj.cells #[.int .i64 (chk (T s)).1, .int .i64 (chk (T s)).2.1] 24)) = w2 at *
  go_loopw [7, 8] (fun v j wr => ∃ i bs, j = .int .i64 (i : Nat) ∧ RL s w v wr i bs) (fun _ j _ => s.size - (intOf j).toNat)
  case atStart => exact ⟨0, [], rfl, HRL.out⟩
  case round =>
    clear HRL
    obtain ⟨i, bs, rfl, hrl⟩ := hrel
    have hle := hrl.le
    have hbl := hrl.len
    have p0 := cell_heap (j := 0) hrl.p rfl
    have p1 := cell_heap (j := 1) hrl.p rfl
    have fp0 := frozen_heap (j := 0) hrl.p
    have fp1 := frozen_heap (j := 1) hrl.p
    have HT := hide hrl
    clear hrl
    by_cases hi : i < s.size
    case neg =>
      have HR := hide (left_end HT.out.eq HS.out hi)
      go_wp2_with fail
      refine bodyPost_ret (v := .tuple #[u7, .agg #[.int .i64 0, .int .i64 0], .int .i64 0]) (by simp [results, Try.results9, go_sem, p0, p1]) rfl ?_
      rw [HR.out]
      have hpos := own_ne_row HT.out.own HT.out.p (by decide)
      exact ⟨_, bs, rfl, rfl, ownsRow_setCell_other (ownsRow_setCell_other HT.out.own hpos _) hpos _, ((HT.out.bel.setCell (p := ⟨w.heap.size, 0, none⟩) (Nat.le_refl _) _).setCell (p := ⟨w.heap.size, 1, none⟩) (Nat.le_refl _) _), by have := HT.out.len; omega⟩
    have hs : step ((T s).drop i) = step ((T s).drop i) := rfl
    conv at hs => rhs; unfold step; rw [show ((T s).drop i).headD 0 = s[i] by rw [T_drop s i hi]; rfl]
    have e32 : s[i] = 32 ↔ (s[i].toNat : Int) = 32 := u8_int s[i] 32 (by omega)
    have e10 : s[i] = 10 ↔ (s[i].toNat : Int) = 10 := u8_int s[i] 10 (by omega)
    have e35 : s[i] = 35 ↔ (s[i].toNat : Int) = 35 := u8_int s[i] 35 (by omega)
    have e34 : s[i] = 34 ↔ (s[i].toNat : Int) = 34 := u8_int s[i] 34 (by omega)
    simp only [e32, e10, e35, e34] at hs
    clear e32 e10 e35 e34
    by_cases h1 : (s[i].toNat : Int) = 32
    · rw [if_pos (.inl h1)] at hs
      obtain ⟨hn1, hn2, hl⟩ := left_more HT.out.eq hi hs
      have h1' := beq_it h1
      have HL := hide hl
      clear hs hl
      go_wp2_with fail
      go_roundw
      case rel => exact ⟨i + 1, bs, by go_num, by omega, by omega, HT.out.own, HT.out.p, HT.out.bel, by simpa using HL.out⟩
      case measure => simp [intOf]; omega
    have h1' := beq_if h1
    by_cases h2 : (s[i].toNat : Int) = 10
    · rw [if_pos (.inr h2)] at hs
      obtain ⟨hn1, hn2, hl⟩ := left_more HT.out.eq hi hs
      have h2' := beq_it h2
      have hor : ¬ (((s[i].toNat : Int) == 32) = false ∧ ((s[i].toNat : Int) == 10) = false) := fun h => by rw [h2'] at h; exact Bool.noConfusion h.2
      have HL := hide hl
      clear hs hl
      go_wp2_with fail
      go_roundw
      case rel => exact ⟨i + 1, bs, by go_num, by omega, by omega, HT.out.own, HT.out.p, HT.out.bel, by simpa using HL.out⟩
      case measure => simp [intOf]; omega
    rw [if_neg (fun h => h.elim h1 h2)] at hs
    have h2' := beq_if h2
    have hor : ¬ (((s[i].toNat : Int) == 32) = true ∨ ((s[i].toNat : Int) == 10) = true) := fun h => h.elim (fun h => by rw [h1'] at h; exact Bool.noConfusion h) (fun h => by rw [h2'] at h; exact Bool.noConfusion h)
    by_cases h3 : (s[i].toNat : Int) = 35
    · rw [if_pos h3] at hs
      obtain ⟨hn1, hn2, hl⟩ := left_more HT.out.eq hi hs
      have h3' := beq_it h3
      have HL := hide hl
      clear hs hl h1 h2 h3
      go_wp2_with fail
      go_loop [8] (fun j => ∃ k : Nat, i ≤ k ∧ k ≤ s.size ∧ j = .int .i64 k ∧ i + firstN is10 ((T s).drop i) = k + firstN is10 ((T s).drop k)) (fun j => s.size - (intOf j).toNat)
      case atStart => exact ⟨i, Nat.le_refl _, hle, rfl, rfl⟩
      case round =>
        obtain ⟨k, hik, hk, rfl, hf⟩ := hrel
        have HF := hide hf
        clear hf
        by_cases hlt : k < s.size
        · have HN := hide (firstN_at is10 s k hlt)
          have HX := hide (is10_at s k hlt)
          by_cases hx : (s[k].toNat : Int) = 10
          · have hx' := beq_it hx
            go_wp2_with fail
            have he : i + firstN is10 ((T s).drop i) = k := by rw [HF.out, HN.out, HX.out, hx']; simp
            have hl := HL.out
            rw [he] at hl hn2
            have hne : i < k := by omega
            exact ⟨⟨k, bs, rfl, hk, by omega, HT.out.own, HT.out.p, HT.out.bel, by simpa using hl⟩, by simp [intOf]; omega⟩
          · have hx' := beq_if hx
            go_wp2_with fail
            go_round
            case rel => exact ⟨k + 1, by omega, by omega, by go_num, by rw [HF.out, HN.out, HX.out, hx']; simp; omega⟩
            case measure => simp [intOf]; omega
        · go_wp2_with fail
          have he : i + firstN is10 ((T s).drop i) = k := by rw [HF.out, List.drop_eq_nil_of_le (by rw [T_len]; omega)]; simp [firstN]
          have hl := HL.out
          rw [he] at hl hn2
          have hne : i < k := by omega
          exact ⟨⟨k, bs, rfl, hk, by omega, HT.out.own, HT.out.p, HT.out.bel, by simpa using hl⟩, by simp [intOf]; omega⟩
    rw [if_neg h3] at hs
    have h3' := beq_if h3
    have hbg := beg_at s i hi
    have HBEG := hide (fun W => begins_any s i W hi hlen)
    have HAT := hide (fun W => at_any s i W hle hlen)
    cases hp : Lib.hasPrefix ((T s).drop i) [47, 42]
    case true =>
      rw [if_pos hp] at hs
      rw [hp] at hbg HBEG
      have hi2 : i + 1 < s.size := by
        rcases Nat.lt_or_ge (i + 1) s.size with h | h
        · exact h
        · rw [dif_neg (by omega), Bool.and_false] at hbg; cases hbg
      rw [dif_pos hi2] at hbg
      have h47 : (s[i].toNat : Int) = 47 := by
        cases hq : ((s[i].toNat : Int) == 47) with
        | true => exact beq_t hq
        | false => rw [hq] at hbg; cases hbg
      have h34 : ¬ (s[i].toNat : Int) = 34 := by omega
      have h34' := beq_if h34
      have hcl := fun W => closed_c s i W hi2 hlen h34
      rw [List.drop_drop] at hs
      simp only [clC_eq] at hcl
      by_cases h4 : Lib.index ((T s).drop (i + 2)) [42, 47] < 0
      · rw [if_pos h4] at hs
        simp only [if_pos h4] at hcl
        have HR := hide (left_err HT.out.eq HS.out hi (by rw [hs]))
        have HCL := hide hcl
        clear hs hcl h1 h2 h3 hbg h47 h34 hp h4
        go_wp2_with fail
        refine (HBEG.out _).mono ?_; rintro e w3 ⟨rfl, rfl⟩
        go_wp2_with fail
        refine (HCL.out _).mono ?_; rintro e w3 ⟨rfl, rfl⟩
        go_wp2_with fail
        refine (HAT.out _).mono ?_; rintro e w3 ⟨rfl, hb3⟩
        have hbel3 : Below w.heap.size w w3 := below_wide HT.out.bel hb3
        have hpp3 : PosR w3 w.heap.size 0 0 := heapB hb3 HT.out.p
        have p0 := cell_heap (j := 0) hpp3 rfl
        have p1 := cell_heap (j := 1) hpp3 rfl
        have fp0 := frozen_heap (j := 0) hpp3
        have fp1 := frozen_heap (j := 1) hpp3
        have HB3 := hide hbel3
        clear hbel3 hpp3 hb3
        go_wp2_with fail
        refine bodyPost_ret (v := .tuple #[.slice none 0 0, .agg #[.int .i64 (adv ((T s).take i) 1 1).1, .int .i64 (adv ((T s).take i) 1 1).2], .int .i64 71]) (by simp [results, Try.results9, go_sem, p0, p1]) rfl ?_
        rw [HR.out]
        exact ⟨_, [], rfl, rfl, World.ownsRow_nil _ _ _ _, ((HB3.out.setCell (p := ⟨w.heap.size, 0, none⟩) (Nat.le_refl _) _).setCell (p := ⟨w.heap.size, 1, none⟩) (Nat.le_refl _) _), by simp⟩
      · rw [if_neg h4] at hs
        simp only [if_neg h4] at hcl
        have hn : (i : Int) + 2 + Lib.index ((T s).drop (i + 2)) [42, 47] + 2 = ((i + ((Lib.index ((T s).drop (i + 2)) [42, 47]).toNat + 4) : Nat) : Int) := by omega
        simp only [hn] at hcl
        obtain ⟨hn1, hn2, hl⟩ := left_more HT.out.eq hi hs
        clear hn h4
        generalize (Lib.index ((T s).drop (i + 2)) [42, 47]).toNat + 4 = n at *
        have HCL := hide hcl
        have HL := hide hl
        clear hs hcl h1 h2 h3 hbg h47 h34 hp hl
        go_wp2_with fail
        refine (HBEG.out _).mono ?_; rintro e w3 ⟨rfl, rfl⟩
        go_wp2_with fail
        refine (HCL.out _).mono ?_; rintro e w3 ⟨rfl, rfl⟩
        go_wp2_with fail
        exact ⟨⟨i + n, bs, rfl, hn2, by omega, HT.out.own, HT.out.p, HT.out.bel, by simpa using HL.out⟩, by simp [intOf]; omega⟩
    rw [if_neg (by rw [hp]; decide)] at hs
    rw [hp] at HBEG
    clear hbg
    by_cases h4 : (s[i].toNat : Int) = 34
    · rw [if_pos h4] at hs
      have h4' := beq_it h4
      have hcl := fun W => closed_q s i W hi hlen h4
      simp only [cl34_eq] at hcl
      rw [List.drop_drop] at hs
      have hge : ((T s).drop i).getD ((Lib.indexAny ((T s).drop (i + 1)) [34, 10]).toNat + 1) 0 = ((T s).drop (i + 1)).getD (Lib.indexAny ((T s).drop (i + 1)) [34, 10]).toNat 0 := by
        simp only [List.getD_eq_getElem?_getD, List.getElem?_drop]
        congr 2
        omega
      rw [hge] at hs
      by_cases h5 : Lib.indexAny ((T s).drop (i + 1)) [34, 10] < 0 ∨ ((T s).drop (i + 1)).getD (Lib.indexAny ((T s).drop (i + 1)) [34, 10]).toNat 0 = 10
      · rw [if_pos h5] at hs
        simp only [if_pos h5] at hcl
        have HR := hide (left_err HT.out.eq HS.out hi (by rw [hs]))
        have HCL := hide hcl
        clear hs hcl h1 h2 h3 hp h4 h5 hge
        go_wp2_with fail
        refine (HBEG.out _).mono ?_; rintro e w3 ⟨rfl, rfl⟩
        go_wp2_with fail
        refine (HCL.out _).mono ?_; rintro e w3 ⟨rfl, rfl⟩
        go_wp2_with fail
        refine (HAT.out _).mono ?_; rintro e w3 ⟨rfl, hb3⟩
        have hbel3 : Below w.heap.size w w3 := below_wide HT.out.bel hb3
        have hpp3 : PosR w3 w.heap.size 0 0 := heapB hb3 HT.out.p
        have p0 := cell_heap (j := 0) hpp3 rfl
        have p1 := cell_heap (j := 1) hpp3 rfl
        have fp0 := frozen_heap (j := 0) hpp3
        have fp1 := frozen_heap (j := 1) hpp3
        have HB3 := hide hbel3
        clear hbel3 hpp3 hb3
        go_wp2_with fail
        refine bodyPost_ret (v := .tuple #[.slice none 0 0, .agg #[.int .i64 (adv ((T s).take i) 1 1).1, .int .i64 (adv ((T s).take i) 1 1).2], .int .i64 71]) (by simp [results, Try.results9, go_sem, p0, p1]) rfl ?_
        rw [HR.out]
        exact ⟨_, [], rfl, rfl, World.ownsRow_nil _ _ _ _, ((HB3.out.setCell (p := ⟨w.heap.size, 0, none⟩) (Nat.le_refl _) _).setCell (p := ⟨w.heap.size, 1, none⟩) (Nat.le_refl _) _), by simp⟩
      · rw [if_neg h5] at hs
        simp only [if_neg h5] at hcl
        have h6 : ¬ Lib.indexAny ((T s).drop (i + 1)) [34, 10] < 0 := fun h => h5 (.inl h)
        have hn : (i : Int) + 1 + Lib.indexAny ((T s).drop (i + 1)) [34, 10] + 1 = ((i + ((Lib.indexAny ((T s).drop (i + 1)) [34, 10]).toNat + 2) : Nat) : Int) := by omega
        simp only [hn] at hcl
        obtain ⟨hn1, hn2, hl⟩ := left_more HT.out.eq hi hs
        have htb : T (s.extract (i + 1) (i + ((Lib.indexAny ((T s).drop (i + 1)) [34, 10]).toNat + 2) - 1)) = ((T s).drop (i + 1)).take (Lib.indexAny ((T s).drop (i + 1)) [34, 10]).toNat := by
          rw [T_extract, List.drop_take]
          congr 1
          omega
        rw [← htb] at hl
        clear hn h5 h6 htb hge
        generalize (Lib.indexAny ((T s).drop (i + 1)) [34, 10]).toNat = n at *
        have HCL := hide hcl
        have HL := hide hl
        clear hs hcl h1 h2 h3 hp hl h4
        go_wp2_with fail
        refine (HBEG.out _).mono ?_; rintro e w3 ⟨rfl, rfl⟩
        go_wp2_with fail
        refine (HCL.out _).mono ?_; rintro e w3 ⟨rfl, rfl⟩
        go_wp2_with fail
        refine wp_region_taken [0, 1, 2, 3, 4, 5, 6, 7, 8] [9, 10, 11, 12, 13] (by kernel_rfl) (by kernel_rfl) (by kernel_rfl) (by kernel_rfl) (.cons (.zero) (.cons (.succ (.zero)) (.cons (.succ (.succ (.zero))) (.cons (.succ (.succ (.succ (.zero)))) (.cons (.succ (.succ (.succ (.succ (.zero))))) (.cons (.succ (.succ (.succ (.succ (.succ (.zero)))))) (.cons (.succ (.succ (.succ (.succ (.succ (.succ (.zero))))))) (.cons (.succ (.succ (.succ (.succ (.succ (.succ (.succ (.zero)))))))) (.cons (.succ (.succ (.succ (.succ (.succ (.succ (.succ (.succ (.zero))))))))) .nil))))))))) (.cons (.succ (.succ (.succ (.succ (.succ (.succ (.succ (.succ (.succ (.zero)))))))))) (.cons (.succ (.succ (.succ (.succ (.succ (.succ (.succ (.succ (.succ (.succ (.zero))))))))))) (.cons (.succ (.succ (.succ (.succ (.succ (.succ (.succ (.succ (.succ (.succ (.succ (.zero)))))))))))) (.cons (.succ (.succ (.succ (.succ (.succ (.succ (.succ (.succ (.succ (.succ (.succ (.succ (.zero))))))))))))) (.cons (.succ (.succ (.succ (.succ (.succ (.succ (.succ (.succ (.succ (.succ (.succ (.succ (.succ (.zero)))))))))))))) .nil))))) (fun _ _ _ _ _ h => h) ?_
        repeat (first | go_big_quiet_step ((fail)) | quiet_step ((fail)))
        refine wpQuiet_nil ?_
        go_wp2_with fail
        refine (HAT.out _).mono ?_; rintro e w3 ⟨rfl, hb3⟩
        have hown3 := own_below HT.out.own.drew hb3
        have hbel3 : Below w.heap.size w w3 := below_wide HT.out.bel.drew hb3
        have hpp3 : PosR w3 w.heap.size 0 0 := heapB hb3 HT.out.p
        have HO3 := hide hown3
        have HB3 := hide hbel3
        have HP3 := hide hpp3
        clear hown3 hbel3 hpp3 hb3
        generalize hgl : (adv ((T s).take i) 1 1).1 = l at *
        generalize hgc : (adv ((T s).take i) 1 1).2 = c at *
        obtain ⟨i1, hi1, iz1, is1, ib1⟩ := info_parts infoRef
        have HOWN2 := hide (HO3.out.alloc (Obj.cells #[.int .u8 (1), .string (s.extract (i + 1) (i + (n + 2) - 1)), .int .i64 l, .int .i64 c] 75))
        go_wp2_with (at_builtin; (refine wpList_append_own _ rfl (.tmp 73) (.tmp 84) 28 rfl w.heap.size 75 i1 _ 4 40 Try.underlying28 hi1 iz1 is1 ib1 rfl (by decide) _ bs.length (bs.flatMap BTok.cells) rfl HOWN2.out ⟨w3.heap.size, 0, none⟩ 1 1 [.int .u8 (1), .string (s.extract (i + 1) (i + (n + 2) - 1)), .int .i64 l, .int .i64 c] rfl rfl ?cells ?ones ?c63 ?cby ?cbase ?_))
        case cells =>
          intro j u hj
          match j, hj with
          | 0, hj => simp at hj; subst hj; simp [Addr.add, go_sem]
          | 1, hj => simp at hj; subst hj; simp [Addr.add, go_sem]
          | 2, hj => simp at hj; subst hj; simp [Addr.add, go_sem]
          | 3, hj => simp at hj; subst hj; simp [Addr.add, go_sem]
          | j + 4, hj => simp at hj
        case ones => simp [Value.oneCell']
        case c63 => unfold maxLen; omega
        case cby => omega
        case cbase => have := HB3.out.size; simp; omega
        intro v' w4 hown' hgrow _
        have HGR := hide hgrow
        have HOW := hide hown'
        clear hgrow hown'
        go_wp2_with fail
        have hsz3 := HB3.out.size
        have hp1 : PosR (w3.alloc (Obj.cells #[.int .u8 (1), .string (s.extract (i + 1) (i + (n + 2) - 1)), .int .i64 l, .int .i64 c] 75)) w.heap.size 0 0 := heap_old HP3.out
        have hrl' : RL s w v' w4 (i + (n + 2)) (bs ++ [⟨1, (s.extract (i + 1) (i + (n + 2) - 1)), l, c⟩]) := by
          refine ⟨hn2, by simp; omega, ?_, heap_grown hp1 HGR.out (own_ne_row HOWN2.out hp1 (by decide)), (HB3.out.alloc hsz3 _).grown HGR.out (by simp; omega) (fun k' hk' => (HOWN2.out.lt k' hk').1), ?_⟩
          · have := HOW.out
            simpa [BTok.cells] using this
          · have := HL.out
            simpa [BTok.tok] using this
        exact ⟨⟨i + (n + 2), _, rfl, hrl'⟩, by simp [intOf]; omega⟩
    rw [if_neg h4] at hs
    have h4' := beq_if h4
    have HSG := hide (fun W => sign_any s[i] W)
    by_cases h5 : (0 : Int) ≤ Lib.indexByte signs s[i]
    · rw [if_pos h5] at hs
      have hk : sgn s[i] = 2 + Lib.indexByte signs s[i] := by unfold sgn; rw [if_pos h5]
      have hpos : 0 < sgn s[i] := by omega
      rw [← hk] at hs
      obtain ⟨hn1, hn2, hl⟩ := left_more HT.out.eq hi hs
      have htb : T (s.extract i (i + 1)) = ((T s).drop i).take 1 := by
        rw [T_extract, List.drop_take]
        congr 1
        omega
      rw [← htb] at hl
      clear htb hk h5
      generalize sgn s[i] = g at *
      have HL := hide hl
      clear hs h1 h2 h3 h4 hp hl
      go_wp2_with fail
      refine (HBEG.out _).mono ?_; rintro e w3 ⟨rfl, rfl⟩
      go_wp2_with fail
      refine (HSG.out _).mono ?_; rintro e w3 ⟨rfl, rfl⟩
      go_wp2_with fail
      refine wp_region_taken [0, 1, 2, 3, 5, 6, 7, 8, 9, 10, 11] [4, 12, 13, 14, 15, 16] (by kernel_rfl) (by kernel_rfl) (by kernel_rfl) (by kernel_rfl) (.cons (.zero) (.cons (.succ (.zero)) (.cons (.succ (.succ (.zero))) (.cons (.succ (.succ (.succ (.zero)))) (.cons (.succ (.succ (.succ (.succ (.succ (.zero)))))) (.cons (.succ (.succ (.succ (.succ (.succ (.succ (.zero))))))) (.cons (.succ (.succ (.succ (.succ (.succ (.succ (.succ (.zero)))))))) (.cons (.succ (.succ (.succ (.succ (.succ (.succ (.succ (.succ (.zero))))))))) (.cons (.succ (.succ (.succ (.succ (.succ (.succ (.succ (.succ (.succ (.zero)))))))))) (.cons (.succ (.succ (.succ (.succ (.succ (.succ (.succ (.succ (.succ (.succ (.zero))))))))))) (.cons (.succ (.succ (.succ (.succ (.succ (.succ (.succ (.succ (.succ (.succ (.succ (.zero)))))))))))) .nil))))))))))) (.cons (.succ (.succ (.succ (.succ (.zero))))) (.cons (.succ (.succ (.succ (.succ (.succ (.succ (.succ (.succ (.succ (.succ (.succ (.succ (.zero))))))))))))) (.cons (.succ (.succ (.succ (.succ (.succ (.succ (.succ (.succ (.succ (.succ (.succ (.succ (.succ (.zero)))))))))))))) (.cons (.succ (.succ (.succ (.succ (.succ (.succ (.succ (.succ (.succ (.succ (.succ (.succ (.succ (.succ (.zero))))))))))))))) (.cons (.succ (.succ (.succ (.succ (.succ (.succ (.succ (.succ (.succ (.succ (.succ (.succ (.succ (.succ (.succ (.zero)))))))))))))))) (.cons (.succ (.succ (.succ (.succ (.succ (.succ (.succ (.succ (.succ (.succ (.succ (.succ (.succ (.succ (.succ (.succ (.zero))))))))))))))))) .nil)))))) (fun _ _ _ _ _ h => h) ?_
      repeat (first | go_big_quiet_step ((fail)) | quiet_step ((fail)))
      refine wpQuiet_nil ?_
      go_wp2_with fail
      refine (HSG.out _).mono ?_; rintro e w3 ⟨rfl, rfl⟩
      go_wp2_with fail
      refine (HAT.out _).mono ?_; rintro e w3 ⟨rfl, hb3⟩
      have hown3 := own_below HT.out.own.drew hb3
      have hbel3 : Below w.heap.size w w3 := below_wide HT.out.bel.drew hb3
      have hpp3 : PosR w3 w.heap.size 0 0 := heapB hb3 HT.out.p
      have HO3 := hide hown3
      have HB3 := hide hbel3
      have HP3 := hide hpp3
      clear hown3 hbel3 hpp3 hb3
      generalize hgl : (adv ((T s).take i) 1 1).1 = l at *
      generalize hgc : (adv ((T s).take i) 1 1).2 = c at *
      obtain ⟨i1, hi1, iz1, is1, ib1⟩ := info_parts infoRef
      have HOWN2 := hide (HO3.out.alloc (Obj.cells #[.int .u8 (g), .string (s.extract i (i + 1)), .int .i64 l, .int .i64 c] 75))
      go_wp2_with (at_builtin; (refine wpList_append_own _ rfl (.tmp 92) (.tmp 106) 28 rfl w.heap.size 75 i1 _ 4 40 Try.underlying28 hi1 iz1 is1 ib1 rfl (by decide) _ bs.length (bs.flatMap BTok.cells) rfl HOWN2.out ⟨w3.heap.size, 0, none⟩ 1 1 [.int .u8 (g), .string (s.extract i (i + 1)), .int .i64 l, .int .i64 c] rfl rfl ?cells ?ones ?c63 ?cby ?cbase ?_))
      case cells =>
        intro j u hj
        match j, hj with
        | 0, hj => simp at hj; subst hj; simp [Addr.add, go_sem]
        | 1, hj => simp at hj; subst hj; simp [Addr.add, go_sem]
        | 2, hj => simp at hj; subst hj; simp [Addr.add, go_sem]
        | 3, hj => simp at hj; subst hj; simp [Addr.add, go_sem]
        | j + 4, hj => simp at hj
      case ones => simp [Value.oneCell']
      case c63 => unfold maxLen; omega
      case cby => omega
      case cbase => have := HB3.out.size; simp; omega
      intro v' w4 hown' hgrow _
      have HGR := hide hgrow
      have HOW := hide hown'
      clear hgrow hown'
      go_wp2_with fail
      have hsz3 := HB3.out.size
      have hp1 : PosR (w3.alloc (Obj.cells #[.int .u8 (g), .string (s.extract i (i + 1)), .int .i64 l, .int .i64 c] 75)) w.heap.size 0 0 := heap_old HP3.out
      have hrl' : RL s w v' w4 (i + 1) (bs ++ [⟨g, (s.extract i (i + 1)), l, c⟩]) := by
        refine ⟨hn2, by simp; omega, ?_, heap_grown hp1 HGR.out (own_ne_row HOWN2.out hp1 (by decide)), (HB3.out.alloc hsz3 _).grown HGR.out (by simp; omega) (fun k' hk' => (HOWN2.out.lt k' hk').1), ?_⟩
        · have := HOW.out
          simpa [BTok.cells] using this
        · have := HL.out
          simpa [BTok.tok] using this
      exact ⟨⟨i + 1, _, by go_num, hrl'⟩, by simp [intOf]; omega⟩
    rw [if_neg h5] at hs
    have hz : sgn s[i] = 0 := by unfold sgn; rw [if_neg h5]
    rw [hz] at HSG
    obtain ⟨hn1, hn2, hl⟩ := left_more HT.out.eq hi hs
    have HL := hide hl
    clear hs hz h5 h1 h2 h3 h4 hp hl
    go_wp2_with fail
    refine (HBEG.out _).mono ?_; rintro e w3 ⟨rfl, rfl⟩
    go_wp2_with fail
    refine (HSG.out _).mono ?_; rintro e w3 ⟨rfl, rfl⟩
    go_wp2_with fail
    rename_i K aK
    have key : ∀ (k : Nat) (x111 x112 x113 x114 x115 x116 x117 x118 x119 x120 x121 x122 x123 x124 x125 x126 x127 x128 x129 x130 x131 x132 x133 x134 x135 x136 x137 x138 x139 x140 x141 x142 x143 x144 x145 x146 x147 x148 x149 x150 x151 x152 x153 : Value), i ≤ k → k ≤ s.size → i + firstN isEnd ((T s).drop i) = k → K { tmps := #[Value.string s, undef, u2, Value.pointer (some { block := w.heap.size, off := 0 }), u4, Value.pointer (some { block := w1.heap.size, off := 0 }), Value.int IntKind.i64 0, u7, Value.int IntKind.i64 ↑k, u9, Value.int IntKind.i64 ↑i, Value.tuple #[Value.agg #[Value.int IntKind.i64 (chk (T s)).fst, Value.int IntKind.i64 (chk (T s)).snd.fst], Value.int IntKind.i64 0], Value.string s, Value.tuple #[Value.agg #[Value.int IntKind.i64 (chk (T s)).fst, Value.int IntKind.i64 (chk (T s)).snd.fst], Value.int IntKind.i64 0], Value.agg #[Value.int IntKind.i64 (chk (T s)).fst, Value.int IntKind.i64 (chk (T s)).snd.fst], Value.int IntKind.i64 0, Value.int IntKind.i64 0, Value.bool false, undef, undef, Value.int IntKind.i64 ↑i, Value.string s, Value.int IntKind.i64 ↑s.size, Value.bool true, Value.string s, Value.int IntKind.i64 ↑i, Value.int IntKind.u8 ↑s[i].toNat, Value.bool false, Value.bool false, Value.string s, Value.int IntKind.i64 ↑i, Value.int IntKind.u8 ↑s[i].toNat, Value.bool false, Value.bool false, u34, u35, Value.string s, Value.int IntKind.i64 ↑i, Value.int IntKind.u8 ↑s[i].toNat, Value.bool false, u40, u41, u42, u43, u44, u45, u46, u47, u48, u49, u50, u51, Value.string s, Value.int IntKind.i64 ↑i, Value.bool false, Value.bool false, Value.string s, Value.int IntKind.i64 ↑i, Value.int IntKind.u8 ↑s[i].toNat, Value.bool false, Value.bool false, u61, u62, u63, u64, u65, u66, u67, u68, u69, u70, u71, u72, u73, u74, u75, u76, u77, u78, u79, u80, u81, u82, u83, u84, u85, u86, Value.string s, Value.int IntKind.i64 ↑i, Value.int IntKind.u8 ↑s[i].toNat, Value.int IntKind.u8 0, Value.bool false, u92, u93, u94, u95, u96, u97, u98, u99, u100, u101, u102, u103, u104, u105, u106, u107, u108, u109, Value.int IntKind.i64 ↑i, x111, x112, x113, x114, x115, x116, x117, x118, x119, x120, x121, x122, x123, x124, x125, x126, x127, x128, x129, x130, x131, x132, x133, x134, x135, x136, x137, x138, x139, x140, x141, x142, x143, x144, x145, x146, x147, x148, x149, x150, x151, x152, x153, u154, u155, u156, u157, u158, u159, u160, u161, u162, u163, u164, undef, undef], defers := [] } wr := by
      intro k x111 x112 x113 x114 x115 x116 x117 x118 x119 x120 x121 x122 x123 x124 x125 x126 x127 x128 x129 x130 x131 x132 x133 x134 x135 x136 x137 x138 x139 x140 x141 x142 x143 x144 x145 x146 x147 x148 x149 x150 x151 x152 x153 hik hk he
      have hl := HL.out
      have htb : T (s.extract i k) = ((T s).drop i).take (firstN isEnd ((T s).drop i)) := by
        rw [T_extract, List.drop_take]
        congr 1
        omega
      rw [← htb] at hl
      rw [he] at hl hn2
      have hne : i < k := by omega
      have HL := hide hl
      clear htb hl hn1 he
      go_wp2_with fail
      refine wp_region_taken [0, 1, 2, 3, 4, 5, 6] [7, 8, 9, 10, 11] (by kernel_rfl) (by kernel_rfl) (by kernel_rfl) (by kernel_rfl) (.cons (.zero) (.cons (.succ (.zero)) (.cons (.succ (.succ (.zero))) (.cons (.succ (.succ (.succ (.zero)))) (.cons (.succ (.succ (.succ (.succ (.zero))))) (.cons (.succ (.succ (.succ (.succ (.succ (.zero)))))) (.cons (.succ (.succ (.succ (.succ (.succ (.succ (.zero))))))) .nil))))))) (.cons (.succ (.succ (.succ (.succ (.succ (.succ (.succ (.zero)))))))) (.cons (.succ (.succ (.succ (.succ (.succ (.succ (.succ (.succ (.zero))))))))) (.cons (.succ (.succ (.succ (.succ (.succ (.succ (.succ (.succ (.succ (.zero)))))))))) (.cons (.succ (.succ (.succ (.succ (.succ (.succ (.succ (.succ (.succ (.succ (.zero))))))))))) (.cons (.succ (.succ (.succ (.succ (.succ (.succ (.succ (.succ (.succ (.succ (.succ (.zero)))))))))))) .nil))))) (fun _ _ _ _ _ h => h) ?_
      repeat (first | go_big_quiet_step ((fail)) | quiet_step ((fail)))
      refine wpQuiet_nil ?_
      go_wp2_with fail
      refine (HAT.out _).mono ?_; rintro e w3 ⟨rfl, hb3⟩
      have hown3 := own_below HT.out.own.drew hb3
      have hbel3 : Below w.heap.size w w3 := below_wide HT.out.bel.drew hb3
      have hpp3 : PosR w3 w.heap.size 0 0 := heapB hb3 HT.out.p
      have HO3 := hide hown3
      have HB3 := hide hbel3
      have HP3 := hide hpp3
      clear hown3 hbel3 hpp3 hb3
      generalize hgl : (adv ((T s).take i) 1 1).1 = l at *
      generalize hgc : (adv ((T s).take i) 1 1).2 = c at *
      obtain ⟨i1, hi1, iz1, is1, ib1⟩ := info_parts infoRef
      have HOWN2 := hide (HO3.out.alloc (Obj.cells #[.int .u8 (1), .string (s.extract i k), .int .i64 l, .int .i64 c] 75))
      go_wp2_with (at_builtin; (refine wpList_append_own _ rfl (.tmp 154) (.tmp 163) 28 rfl w.heap.size 75 i1 _ 4 40 Try.underlying28 hi1 iz1 is1 ib1 rfl (by decide) _ bs.length (bs.flatMap BTok.cells) rfl HOWN2.out ⟨w3.heap.size, 0, none⟩ 1 1 [.int .u8 (1), .string (s.extract i k), .int .i64 l, .int .i64 c] rfl rfl ?cells ?ones ?c63 ?cby ?cbase ?_))
      case cells =>
        intro j u hj
        match j, hj with
        | 0, hj => simp at hj; subst hj; simp [Addr.add, go_sem]
        | 1, hj => simp at hj; subst hj; simp [Addr.add, go_sem]
        | 2, hj => simp at hj; subst hj; simp [Addr.add, go_sem]
        | 3, hj => simp at hj; subst hj; simp [Addr.add, go_sem]
        | j + 4, hj => simp at hj
      case ones => simp [Value.oneCell']
      case c63 => unfold maxLen; omega
      case cby => omega
      case cbase => have := HB3.out.size; simp; omega
      intro v' w4 hown' hgrow _
      have HGR := hide hgrow
      have HOW := hide hown'
      clear hgrow hown'
      go_wp2_with fail
      have hsz3 := HB3.out.size
      have hp1 : PosR (w3.alloc (Obj.cells #[.int .u8 (1), .string (s.extract i k), .int .i64 l, .int .i64 c] 75)) w.heap.size 0 0 := heap_old HP3.out
      have hrl' : RL s w v' w4 (k) (bs ++ [⟨1, (s.extract i k), l, c⟩]) := by
        refine ⟨hn2, by simp; omega, ?_, heap_grown hp1 HGR.out (own_ne_row HOWN2.out hp1 (by decide)), (HB3.out.alloc hsz3 _).grown HGR.out (by simp; omega) (fun k' hk' => (HOWN2.out.lt k' hk').1), ?_⟩
        · have := HOW.out
          simpa [BTok.cells] using this
        · have := HL.out
          simpa [BTok.tok] using this
      exact ⟨⟨k, _, rfl, hrl'⟩, by simp [intOf]; omega⟩
    have HAK := hide aK
    clear aK
    have KEY := hide key
    clear key
    go_loop [8] (fun j => ∃ k : Nat, i ≤ k ∧ k ≤ s.size ∧ j = .int .i64 k ∧ i + firstN isEnd ((T s).drop i) = k + firstN isEnd ((T s).drop k)) (fun j => s.size - (intOf j).toNat)
    case atStart => exact ⟨i, Nat.le_refl _, hle, rfl, rfl⟩
    case round =>
      obtain ⟨k, hik, hk, rfl, hf⟩ := hrel
      have HF := hide hf
      clear hf
      by_cases hlt : k < s.size
      case neg =>
        have he : i + firstN isEnd ((T s).drop i) = k := by rw [HF.out, List.drop_eq_nil_of_le (i := k) (by rw [T_len]; omega)]; simp [firstN]
        go_wp2_with fail
        exact KEY.out k _ _ _ _ _ _ _ _ _ _ _ _ _ _ _ _ _ _ _ _ _ _ _ _ _ _ _ _ _ _ _ _ _ _ _ _ _ _ _ _ _ _ _ hik hk he
      have HN := hide (firstN_at isEnd s k hlt)
      have HX := hide (isEnd_bits s k hlt)
      have HBK := hide (fun W => begins_any s k W hlt hlen)
      have HSK := hide (fun W => sign_any s[k] W)
      cases c1 : ((s[k].toNat : Int) == 32)
      case true =>
        have b1 : ((s[k].toNat : Int) != 32) = false := by rw [bne, c1]; rfl
        have he : i + firstN isEnd ((T s).drop i) = k := by rw [HF.out, HN.out, HX.out, c1]; simp
        go_wp2_with fail
        exact KEY.out k _ _ _ _ _ _ _ _ _ _ _ _ _ _ _ _ _ _ _ _ _ _ _ _ _ _ _ _ _ _ _ _ _ _ _ _ _ _ _ _ _ _ _ hik hk he
      have b1 : ((s[k].toNat : Int) != 32) = true := by rw [bne, c1]; rfl
      cases c2 : ((s[k].toNat : Int) == 10)
      case true =>
        have b2 : ((s[k].toNat : Int) != 10) = false := by rw [bne, c2]; rfl
        have he : i + firstN isEnd ((T s).drop i) = k := by rw [HF.out, HN.out, HX.out, c2]; simp
        go_wp2_with fail
        exact KEY.out k _ _ _ _ _ _ _ _ _ _ _ _ _ _ _ _ _ _ _ _ _ _ _ _ _ _ _ _ _ _ _ _ _ _ _ _ _ _ _ _ _ _ _ hik hk he
      have b2 : ((s[k].toNat : Int) != 10) = true := by rw [bne, c2]; rfl
      cases c3 : ((s[k].toNat : Int) == 34)
      case true =>
        have b3 : ((s[k].toNat : Int) != 34) = false := by rw [bne, c3]; rfl
        have he : i + firstN isEnd ((T s).drop i) = k := by rw [HF.out, HN.out, HX.out, c3]; simp
        go_wp2_with fail
        exact KEY.out k _ _ _ _ _ _ _ _ _ _ _ _ _ _ _ _ _ _ _ _ _ _ _ _ _ _ _ _ _ _ _ _ _ _ _ _ _ _ _ _ _ _ _ hik hk he
      have b3 : ((s[k].toNat : Int) != 34) = true := by rw [bne, c3]; rfl
      cases c4 : ((s[k].toNat : Int) == 35)
      case true =>
        have b4 : ((s[k].toNat : Int) != 35) = false := by rw [bne, c4]; rfl
        have he : i + firstN isEnd ((T s).drop i) = k := by rw [HF.out, HN.out, HX.out, c4]; simp
        go_wp2_with fail
        exact KEY.out k _ _ _ _ _ _ _ _ _ _ _ _ _ _ _ _ _ _ _ _ _ _ _ _ _ _ _ _ _ _ _ _ _ _ _ _ _ _ _ _ _ _ _ hik hk he
      have b4 : ((s[k].toNat : Int) != 35) = true := by rw [bne, c4]; rfl
      cases c5 : (sgn s[k] == 0)
      case false =>
        have he : i + firstN isEnd ((T s).drop i) = k := by rw [HF.out, HN.out, HX.out, c5]; simp
        generalize sgn s[k] = g at *
        go_wp2_with fail
        refine (HSK.out _).mono ?_; rintro e w3 ⟨rfl, rfl⟩
        go_wp2_with fail
        exact KEY.out k _ _ _ _ _ _ _ _ _ _ _ _ _ _ _ _ _ _ _ _ _ _ _ _ _ _ _ _ _ _ _ _ _ _ _ _ _ _ _ _ _ _ _ hik hk he
      have hg0 := beq_t c5
      rw [hg0] at HSK
      cases c6 : Lib.hasPrefix ((T s).drop k) [47, 42]
      case true =>
        have he : i + firstN isEnd ((T s).drop i) = k := by rw [HF.out, HN.out, HX.out, c6]; simp
        rw [c6] at HBK
        clear c5 hg0
        go_wp2_with fail
        refine (HSK.out _).mono ?_; rintro e w3 ⟨rfl, rfl⟩
        go_wp2_with fail
        refine (HBK.out _).mono ?_; rintro e w3 ⟨rfl, rfl⟩
        go_wp2_with fail
        exact KEY.out k _ _ _ _ _ _ _ _ _ _ _ _ _ _ _ _ _ _ _ _ _ _ _ _ _ _ _ _ _ _ _ _ _ _ _ _ _ _ _ _ _ _ _ hik hk he
      have he : i + firstN isEnd ((T s).drop i) = k + 1 + firstN isEnd ((T s).drop (k + 1)) := by rw [HF.out, HN.out, HX.out, c1, c2, c3, c4, c5, c6]; simp; omega
      have HE := hide he
      rw [c6] at HBK
      clear c5 hg0 he
      go_wp2_with fail
      refine (HSK.out _).mono ?_; rintro e w3 ⟨rfl, rfl⟩
      go_wp2_with fail
      refine (HBK.out _).mono ?_; rintro e w3 ⟨rfl, rfl⟩
      go_wp2_with fail
      go_round
      case rel => exact ⟨k + 1, by omega, by omega, by go_num, HE.out⟩
      case measure => simp [intOf]; omega
end Go.Proofs.Ytihmmmodimionaa.Lx
