/- The law ListsInForm walked: true. -/
import Derived.Test.YtopckpjhdbjmbaaDoorZW
namespace Go.Proofs.YtopckpjhdbjmbaaDoor.Ld
open Go.RowKit Go.Proofs.YtopckpjhdbjmbaaDoor.Lx

set_option maxHeartbeats 400000 in
theorem lsame_true (A : Option Addr) (n c : Nat) (A2 : Option Addr) (c2 : Nat) (z : Nat → Int) (w : World) (hn : n ≤ maxLen) (hz : Us w A n z) (hy : Us w A2 n z) :
    Calls Tryd.prog 20 #[.slice A n c, .slice A2 n c2] w fun e w' => e = .returned (.bool true) ∧ Below w.heap.size w w' := by
  unfold maxLen at hn
  have HE := hide hz
  have HY := hide hy
  clear hz hy
  go_enter Tryd.func20, Tryd.ntmps20
  go_wp2
  go_loopw [5] (fun j wr => ∃ k : Nat, k ≤ n ∧ j = .int .i64 k ∧ Below w.heap.size w wr) (fun j _ => n - (intOf j).toNat)
  case atStart => exact ⟨0, Nat.zero_le _, rfl, Below.refl _ _⟩
  case round =>
    obtain ⟨k, hk, rfl, hbr⟩ := hrel
    by_cases hlt : k < n
    · obtain ⟨bE, off, rfl, h0⟩ := (HE.out.below hbr) k hlt
      obtain ⟨bY, offY, rfl, g0⟩ := (HY.out.below hbr) k hlt
      have h0 := lat_cell h0
      have g0 := lat_cell g0
      go_wp2
      refine wp_region_lat (by kernel_rfl) (by kernel_rfl) ?_
      repeat (first | go_big_quiet_step ((fail)) | quiet_step ((fail)))
      refine wpQuiet_nil ?_
      intro _ hlat
      obtain ⟨wq, rfl⟩ := hlat
      go_wp2
      go_roundw
      case rel => exact ⟨k + 1, by omega, by go_num, below_wide hbr (lat_below _ _)⟩
      case measure => simp [intOf]; omega
    · go_wp2_with fail
      go_ret
      exact ⟨rfl, hbr⟩
theorem lsame_row (A : Option Addr) (n c : Nat) (A2 : Option Addr) (c2 : Nat) (zs : List Int) (w : World) (hn : n ≤ maxLen) (h1 : Row w A n c zs) (h2 : Row w A2 n c2 zs) :
    Calls Tryd.prog 20 #[.slice A n c, .slice A2 n c2] w fun e w' => e = .returned (.bool true) ∧ Below w.heap.size w w' :=
  lsame_true A n c A2 c2 _ w hn h1.us h2.us

theorem hasB_len (z : Nat → Int) (n m : Nat) (h : n = m) (v : Int) : hasB z n v = hasB z m v := by rw [h]
theorem mem_norm (za : List Int) (M : Nat → Mem) : (memB (fun i => (normL za).getD i 0) (normL za).length M) = (memB (fun i => za.getD i 0) za.length M) := by
  funext i
  rw [memB_all, memB_all]
  congr 1
  funext j
  rw [has_list, has_list]
  exact decide_eq_decide.2 (norm_mem za _)

/-- numbers of four bytes, each once: no more than there are -/
theorem up_few : ∀ (l : List Int) (b : Int), Up l → (∀ z ∈ l, b ≤ z ∧ z < 4294967296) → b ≤ 4294967296 → (l.length : Int) ≤ 4294967296 - b := by
  intro l
  induction l with
  | nil => intro b _ _ h; simp only [List.length_nil]; omega
  | cons x xs ih =>
    intro b hu hb _
    have hx := hb x (List.mem_cons_self ..)
    have h1 := List.pairwise_cons.1 hu
    have := ih (x + 1) h1.2 (fun z hz => ⟨by have := h1.1 z hz; omega, (hb z (List.mem_cons_of_mem _ hz)).2⟩) (by omega)
    simp only [List.length_cons]
    omega
theorem norm_few (l : List Int) (h : ∀ z ∈ l, 0 ≤ z ∧ z < 4294967296) : (normL l).length ≤ 4294967296 := by
  have := up_few (normL l) 0 (norm_up l) (fun z hz => h z ((norm_mem l z).1 hz)) (by omega)
  omega

set_option maxHeartbeats 4000000 in
set_option maxRecDepth 100000 in
theorem form_any (A : Option Addr) (n c : Nat) (za : List Int) (B : Option Addr) (m d : Nat) (zb : List Int) (A3 : Option Addr) (n3 c3 : Nat) (M : Nat → Mem) (s : ByteArray) (w : World)
    (hn : n ≤ 35184372088832) (hm : m ≤ 35184372088832) (hn3 : n3 ≤ 35184372088832) (hs : s.size ≤ 140737488355328) (ha : Row w A n c za) (hb : Row w B m d zb) (hM : Mems w A3 n3 M) (hbd : ∀ z ∈ za, 0 ≤ z ∧ z < 4294967296) (hbd2 : ∀ z ∈ zb, 0 ≤ z ∧ z < 4294967296) (hsv : SV w) :
    Calls Tryd.prog 5 #[.slice A n c, .slice B m d, .slice A3 n3 c3, .string s] w fun e w' => e = .returned (.bool true) ∧ Below w.heap.size w w' := by
  have hla : za.length = n := ha.1
  have hlb : zb.length = m := hb.1
  have hna := norm_len za
  have HA := hide ha
  have HBb := hide hb
  have HM := hide hM
  have HV := hide hsv
  have HBD := hide hbd
  have HFEW := hide (norm_few (za ++ zb) (fun z hz => (List.mem_append.1 hz).elim (hbd z) (hbd2 z)))
  have HW := hide (works_any w hsv)
  clear ha hb hM hbd hbd2 hsv
  go_enter Tryd.func5, Tryd.ntmps5
  go_wp2_with fail
  refine HW.out.mono ?_; rintro e w1 ⟨rfl, b1⟩
  have HB1 := hide b1
  have bo := bel_one w1 (OM ⟨#[]⟩ A3 n3 c3)
  have HB2 := hide (below_wide b1 bo)
  have o0 : (w1.alloc (OM ⟨#[]⟩ A3 n3 c3)).cell? ⟨w1.heap.size, 0, none⟩ = some (.string ⟨#[]⟩) := cell_heap (j := 0) (heap_new w1 (OM ⟨#[]⟩ A3 n3 c3)) rfl
  have o1 : (w1.alloc (OM ⟨#[]⟩ A3 n3 c3)).cell? ⟨w1.heap.size, 1, none⟩ = some (.slice A3 n3 c3) := cell_heap (j := 1) (heap_new w1 (OM ⟨#[]⟩ A3 n3 c3)) rfl
  have HO0 := hide o0
  have HO1 := hide o1
  have HN := hide (normal_any A n c za (w1.alloc (OM ⟨#[]⟩ A3 n3 c3)) (by omega) (HA.out.below HB2.out))
  clear b1 bo o0 o1
  go_wp2_with fail
  generalize hbq : w1.heap.size = bq at *
  clear hbq
  generalize (w1.alloc (OM ⟨#[]⟩ A3 n3 c3)) = w2 at *
  refine HN.out.mono ?_; rintro e w3 ⟨v3, rfl, own3, b3⟩
  obtain ⟨A10, c10, rfl, row10⟩ := Row.own own3
  have HR := hide row10
  have HB3 := hide (below_wide HB2.out b3)
  have HX3 := hide b3
  have hup := norm_up za
  have HUP := hide hup
  clear own3 b3 row10 HN HW hup
  go_wp2_with fail
  go_loopw [11] (fun j wr => ∃ k : Nat, k ≤ (normL za).length ∧ j = .int .i64 k ∧ Below w3.heap.size w3 wr) (fun j _ => (normL za).length - (intOf j).toNat)
  case atStart => exact ⟨0, Nat.zero_le _, rfl, Below.refl _ _⟩
  case round =>
    obtain ⟨k, hk, rfl, hbr⟩ := hrel
    by_cases hlt : k + 1 < (normL za).length
    · have hltz : (k : Int) + 1 < ((normL za).length : Int) := by omega
      have hltz0 : (k : Int) < ((normL za).length : Int) := by omega
      obtain ⟨bE, off, rfl, h0⟩ := (HR.out.below hbr).us k (by omega)
      obtain ⟨bY, offY, ey, g0⟩ := (HR.out.below hbr).us (k + 1) hlt
      cases ey
      have h0 : wr.cell? ⟨bE, off + k, none⟩ = some (.int .u32 ((normL za).getD k 0)) := h0
      have g0 : wr.cell? ⟨bE, off + (k + 1), none⟩ = some (.int .u32 ((normL za).getD (k + 1) 0)) := g0
      have hgt : decide ((normL za).getD (k + 1) 0 ≤ (normL za).getD k 0) = false := by
        have := List.pairwise_iff_getElem.1 HUP.out k (k + 1) (by omega) hlt (by omega)
        rw [List.getD_eq_getElem?_getD, List.getD_eq_getElem?_getD, List.getElem?_eq_getElem hlt, List.getElem?_eq_getElem (by omega)]
        simp only [Option.getD_some, decide_eq_false_iff_not]
        omega
      generalize (normL za).getD (k + 1) 0 = y at *
      generalize (normL za).getD k 0 = x at *
      have h0 := lat_cell h0
      have g0 := lat_cell g0
      have HBR := hide hbr
      clear hbr
      go_wp2_with fail
      refine wp_region_lat (by kernel_rfl) (by kernel_rfl) ?_
      repeat (first | go_big_quiet_step ((fail)) | quiet_step ((fail)))
      refine wpQuiet_nil ?_
      intro _ hlat
      obtain ⟨wq, rfl⟩ := hlat
      go_wp2_with fail
      go_roundw
      case rel => exact ⟨k + 1, by omega, by go_num, below_wide HBR.out (lat_below _ _)⟩
      case measure => simp [intOf]; omega
    · have hltz : ¬ (k : Int) + 1 < ((normL za).length : Int) := by omega
      have HB4 := hide (below_wide HB3.out hbr)
      have HX4 := hide (below_wide HX3.out hbr)
      have HR4 := hide (HR.out.below hbr)
      clear hbr HX3 HR
      have HJ1 := hide (join_full A n c za B m d zb wr (by omega) (HA.out.below HB4.out) (HBb.out.below HB4.out))
      have e1 : normL (zb ++ za) = normL (za ++ zb) := norm_same (fun x => by simp [or_comm])
      have e2 : normL (normL (za ++ zb) ++ za) = normL (za ++ zb) := norm_same (fun x => by
        rw [List.mem_append, norm_mem, List.mem_append]
        exact ⟨fun h => h.elim id .inl, .inl⟩)
      have hl12 := norm_len (za ++ zb)
      rw [List.length_append] at hl12
      have hfew := HFEW.out
      go_wp2_with fail
      refine HJ1.out.mono ?_; rintro e w5 ⟨v12, rfl, own12, b5⟩
      obtain ⟨A12, c12, rfl, row12⟩ := Row.own own12
      have HR12 := hide row12
      have HB5 := hide (below_wide HB4.out b5)
      have HX5 := hide (below_wide HX4.out b5)
      have HR5 := hide (HR4.out.below b5)
      clear own12 b5 row12 HJ1 HB4 HX4 HR4
      have hj := join_full B m d zb A n c za w5 (by omega) (HBb.out.below HB5.out) (HA.out.below HB5.out)
      rw [e1] at hj
      have HJ2 := hide hj
      clear hj e1
      go_wp2_with fail
      refine HJ2.out.mono ?_; rintro e w6 ⟨v13, rfl, own13, b6⟩
      obtain ⟨A13, c13, rfl, row13⟩ := Row.own own13
      have HR13 := hide row13
      have HB6 := hide (below_wide HB5.out b6)
      have HX6 := hide (below_wide HX5.out b6)
      have HR6 := hide (HR5.out.below b6)
      have HR12' := hide (HR12.out.below b6)
      clear own13 b6 row13 HJ2 HB5 HX5 HR5 HR12
      have hj := join_full A12 (normL (za ++ zb)).length c12 (normL (za ++ zb)) A n c za w6 (by omega) HR12'.out (HA.out.below HB6.out)
      rw [e2] at hj
      have HJ3 := hide hj
      clear hj e2
      go_wp2_with fail
      refine HJ3.out.mono ?_; rintro e w7 ⟨v14, rfl, own14, b7⟩
      obtain ⟨A14, c14, rfl, row14⟩ := Row.own own14
      have HR14 := hide row14
      have HB7 := hide (below_wide HB6.out b7)
      have HX7 := hide (below_wide HX6.out b7)
      have HR7 := hide (HR6.out.below b7)
      have HR12 := hide (HR12'.out.below b7)
      have HR13' := hide (HR13.out.below b7)
      clear own14 b7 row14 HJ3 HB6 HX6 HR6 HR12' HR13
      have hj := normal_any A10 (normL za).length c10 (normL za) w7 (by omega) HR7.out
      rw [norm_norm] at hj
      have HJ4 := hide hj
      clear hj
      go_wp2_with fail
      refine HJ4.out.mono ?_; rintro e w8 ⟨v15, rfl, own15, b8⟩
      obtain ⟨A15, c15, rfl, row15⟩ := Row.own own15
      have HB8 := hide (below_wide HB7.out b8)
      have hx8 := below_wide HX7.out b8
      have S1 := hide (fun x => lsame_row A12 _ c12 A13 c13 _ (lat w8 x) (by unfold maxLen; omega) ((HR12.out.below b8).below (lat_below w8 x)) ((HR13'.out.below b8).below (lat_below w8 x)))
      have S2 := hide (fun x => lsame_row A12 _ c12 A14 c14 _ (lat w8 x) (by unfold maxLen; omega) ((HR12.out.below b8).below (lat_below w8 x)) ((HR14.out.below b8).below (lat_below w8 x)))
      have S3 := hide (fun x => lsame_row A10 _ c10 A15 c15 _ (lat w8 x) (by unfold maxLen; omega) ((HR7.out.below b8).below (lat_below w8 x)) (row15.below (lat_below w8 x)))
      have hu1 := fun x => ((HA.out.below HB8.out).below (lat_below w8 x)).us
      have hu2 := fun x => ((HR7.out.below b8).below (lat_below w8 x)).us
      have hmm := fun x => (HM.out.below HB8.out).below (lat_below w8 x)
      have AL1 := fun x => allows_any ⟨#[]⟩ A n c (fun i => za.getD i 0) A3 n3 c3 M (lat w8 x) (by unfold maxLen; omega) (hu1 x) (by unfold maxLen; omega) (hmm x)
      have AL2 := fun x => allows_any ⟨#[]⟩ A10 (normL za).length c10 (fun i => (normL za).getD i 0) A3 n3 c3 M (lat w8 x) (by unfold maxLen; omega) (hu2 x) (by unfold maxLen; omega) (hmm x)
      rw [mem_norm, hla] at AL2
      generalize pmtM M (firstI (memB (fun i => za.getD i 0) n M) 0 n3) = bb at AL1 AL2
      have AL1h := hide AL1
      have AL2h := hide AL2
      have o0 := lat_cell (cellB hx8 HO0.out)
      have o1 := lat_cell (cellB hx8 HO1.out)
      have hle : decide (n < (normL za).length) = false := by simp; omega
      clear own15 b8 row15 HJ4 HB7 HX7 HR7 HR12 HR13' HR14 hu1 hu2 hmm AL1 AL2 hx8
      go_wp2_with fail
      refine wp_region_lat (by kernel_rfl) (by kernel_rfl) ?_
      repeat (first | go_big_quiet_step ((first | (go_at_call 20; first | with_reducible exact calls_lat (S1.out _) | with_reducible exact calls_lat (S2.out _) | with_reducible exact calls_lat (S3.out _)) | (go_at_call 18; first | with_reducible exact calls_lat (AL1h.out _) | with_reducible exact calls_lat (AL2h.out _)))) | quiet_step ((first | (go_at_call 20; first | with_reducible exact calls_lat (S1.out _) | with_reducible exact calls_lat (S2.out _) | with_reducible exact calls_lat (S3.out _)) | (go_at_call 18; first | with_reducible exact calls_lat (AL1h.out _) | with_reducible exact calls_lat (AL2h.out _)))))
      refine wpQuiet_nil ?_
      intro _ hlat
      obtain ⟨wq, rfl⟩ := hlat
      have hb9 := lat_below w8 wq
      generalize lat w8 wq = w9 at *
      have HB9 := hide (below_wide HB8.out hb9)
      clear hb9 S1 S2 S3 AL1h AL2h o0 o1
      go_wp2_with fail
      have HA9 := hide (HA.out.below HB9.out)
      go_loopw [16] (fun j wr => ∃ k : Nat, k ≤ n ∧ j = .int .i64 k ∧ Below w9.heap.size w9 wr) (fun j _ => n - (intOf j).toNat)
      case atStart => exact ⟨0, Nat.zero_le _, rfl, Below.refl _ _⟩
      case round =>
        obtain ⟨k2, hk2, rfl, hbr⟩ := hrel
        have HBr := hide (below_wide HB9.out hbr)
        have HBR := hide hbr
        by_cases hlt2 : k2 < n
        · obtain ⟨bE, off, rfl, hq0⟩ := (HA9.out.below hbr).us k2 hlt2
          have h0 : wr.cell? ⟨bE, off + k2, none⟩ = some (.int .u32 (za.getD k2 0)) := hq0
          clear hq0
          have hz := HBD.out (za.getD k2 0) (by
            rw [List.getD_eq_getElem?_getD, List.getElem?_eq_getElem (by omega)]
            exact List.getElem_mem _)
          generalize za.getD k2 0 = z at h0 hz
          obtain ⟨hz1, hz2⟩ := hz
          obtain ⟨u, rfl⟩ := Int.eq_ofNat_of_zero_le hz1
          have hu : u < 4294967296 := by omega
          have HT := hide (text_any u wr hu (HV.out.below HBr.out))
          clear hbr
          go_wp2_with fail
          refine HT.out.mono ?_; rintro e wt ⟨r, rfl, hr, hrs, bt⟩
          have HBt := hide (below_wide HBr.out bt)
          have HBRt := hide (below_wide HBR.out bt)
          have h1 := cellB bt h0
          have hp := parse_pe r wt (by omega) (HV.out.below HBt.out)
          rw [hr, parseA_text u hu, show pV (some u) = (u : Int) from rfl, show pE (some u) = 0 from rfl] at hp
          have HP := hide hp
          clear hp bt HT hr
          go_wp2_with fail
          refine HP.out.mono ?_; rintro e wu ⟨rfl, bu⟩
          have h2 := cellB bu h1
          have HBRu := hide (below_wide HBRt.out bu)
          have hne := neq_self (u : Int)
          clear bu HP
          go_wp2_with fail
          go_roundw
          case rel => exact ⟨k2 + 1, by omega, by go_num, HBRu.out⟩
          case measure => simp [intOf]; omega
        · have HP := hide (parse_pe s wr hs (HV.out.below HBr.out))
          have hps := @parseA_some (T s)
          clear hbr
          cases hpa : parseA (T s) with
          | none =>
            rw [hpa, show pV none = 0 from rfl, show pE none = 4 from rfl] at HP
            clear hpa hps
            go_wp2_with fail
            refine HP.out.mono ?_; rintro e wu ⟨rfl, bu⟩
            have HBu := hide (below_wide HBr.out bu)
            clear bu
            go_wp2_with fail
            go_ret
            exact ⟨rfl, HBu.out⟩
          | some u =>
            obtain ⟨htx, hu⟩ := hps hpa
            rw [hpa, show pV (some u) = (u : Int) from rfl, show pE (some u) = 0 from rfl] at HP
            have HTX := hide htx
            clear hpa hps htx
            go_wp2_with fail
            refine HP.out.mono ?_; rintro e wu ⟨rfl, bu⟩
            have HBu := hide (below_wide HBr.out bu)
            have HT := hide (text_any u wu hu (HV.out.below HBu.out))
            clear bu
            go_wp2_with fail
            refine HT.out.mono ?_; rintro e wt ⟨r, rfl, hr, hrs, bt⟩
            have HBt := hide (below_wide HBu.out bt)
            have he : (r.toList == s.toList) = true := by
              rw [ByteArray.toList_eq, ByteArray.toList_eq, show r.data.toList = T r from rfl, show s.data.toList = T s from rfl, hr, HTX.out]; simp
            clear bt hr
            go_wp2_with fail
            go_ret
            exact ⟨rfl, HBt.out⟩
end Go.Proofs.YtopckpjhdbjmbaaDoor.Ld
