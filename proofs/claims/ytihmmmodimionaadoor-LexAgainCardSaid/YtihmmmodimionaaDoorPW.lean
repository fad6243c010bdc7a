import Derived.Test.YtihmmmodimionaaDoorLQ
import Derived.IntWalk
import Derived.Outline
namespace Go.Proofs.YtihmmmodimionaaDoor.Lx
open Go.RowKit

theorem linRes_some {s : List UInt8} (h : (linRes s).1 ≠ []) : (linRes s).2.2.2 = 0 ∧ s.length ≤ 65536 := by
  by_cases hc : (chk s).2.2 = 0
  · exact ⟨by rw [linRes_ok hc], chk_len hc⟩
  · exact absurd (by rw [linRes_no hc]) h
theorem tokRes_some {s : List UInt8} (h : (tokRes s).1 ≠ []) : (tokRes s).2.2.2 = 0 ∧ s.length ≤ 65536 := by
  by_cases hc : (chk s).2.2 = 0
  · refine ⟨?_, chk_len hc⟩
    cases ht : toks s.length s 1 1 with
    | error e => exact absurd (by rw [tokRes_err hc ht]) h
    | ok ts => rw [tokRes_ok hc ht]
  · exact absurd (by rw [tokRes_no hc]) h
theorem empty_bits {b : ByteArray} (h : T b ≠ []) : b.toList.isEmpty = false := by
  rw [ByteArray.toList_eq, show b.data.toList = T b from rfl]
  cases hb : T b with
  | nil => exact absurd hb h
  | cons => rfl
theorem flatT_at (bs : List BTok) (i : Nat) (h : i < bs.length) : (bs.flatMap BTok.cells)[i * 4]? = some (.int .u8 bs[i].k) ∧ (bs.flatMap BTok.cells)[i * 4 + 1]? = some (.string bs[i].b) ∧ (bs.flatMap BTok.cells)[i * 4 + 2]? = some (.int .i64 bs[i].l) ∧ (bs.flatMap BTok.cells)[i * 4 + 3]? = some (.int .i64 bs[i].c) := by
  induction bs generalizing i with
  | nil => simp at h
  | cons x xs ih =>
    cases i with
    | zero => exact ⟨rfl, rfl, rfl, rfl⟩
    | succ i =>
      have := ih i (by simpa using h)
      have e : (i + 1) * 4 = i * 4 + 4 := by omega
      have e1 : (i + 1) * 4 + 1 = (i * 4 + 1) + 4 := by omega
      have e2 : (i + 1) * 4 + 2 = (i * 4 + 2) + 4 := by omega
      have e3 : (i + 1) * 4 + 3 = (i * 4 + 3) + 4 := by omega
      rw [e1, e2, e3, e]
      simp only [List.flatMap_cons, BTok.cells, List.cons_append, List.nil_append, List.getElem?_cons_succ, List.getElem_cons_succ]
      exact this

set_option maxRecDepth 100000 in
set_option maxHeartbeats 4000000 in
theorem places_any (s : ByteArray) (w : World) (hlen : s.size ≤ maxLen) (m : Int) (hm : w.cell? ⟨0, 0, none⟩ = some (.int .i64 m)) :
    Calls Tryd.prog 4 #[.string s] w fun e w' => e = .returned (.bool true) ∧ Below w.heap.size w w' := by
  have HLX := hide (fun W hW => lines_any s W hlen m hW)
  have HTK := hide (fun W hW => tokens_any s W hlen m hW)
  have HWK := hide (works_any w m hm)
  have HLO := hide (linRes_lok (T s))
  have HTO := hide (tokRes_tok (T s))
  have HLS := hide (linRes_some (s := T s))
  have HTS := hide (tokRes_some (s := T s))
  generalize (linRes (T s)).1 = ls at *
  generalize (linRes (T s)).2 = p at *
  generalize (tokRes (T s)).1 = ts at *
  generalize (tokRes (T s)).2 = p2 at *
  obtain ⟨l, c, e⟩ := p
  obtain ⟨l2, c2, e2⟩ := p2
  have HM := hide hm
  have h00 := lt_of_cell hm
  simp only at h00
  clear hm hlen
  go_enter Tryd.func4, Tryd.ntmps4
  go_wp2_with fail
  refine HWK.out.mono ?_; rintro e0 w0 ⟨rfl, hb0⟩
  have hm0 : w0.cell? ⟨0, 0, none⟩ = some (.int .i64 m) := by rw [hb0.cell (p := ⟨0, 0, none⟩) h00]; exact HM.out
  have HM0 := hide hm0
  have HB0 := hide hb0
  clear hm0 hb0 HWK
  go_wp2_with fail
  refine (HLX.out _ HM0.out).mono ?_; rintro e1 w1 ⟨va, as_, hba, rfl, hoa, hia, hb1, hla, hwa⟩
  obtain ⟨A, cap, rfl⟩ := own_slice hoa
  have HOA := hide (hoa.alloc (Obj.cells #[.int .i64 l, .int .i64 c] 24))
  have HIA := hide (fun x hx => (hia x hx).alloc (Obj.cells #[.int .i64 l, .int .i64 c] 24))
  have HB1 := hide ((below_wide HB0.out hb1).alloc (below_wide HB0.out hb1).size (Obj.cells #[.int .i64 l, .int .i64 c] 24))
  have HBA := hide hba
  clear hoa hia hb1 hba HLX HM0
  go_wp2_with fail
  generalize w1.alloc (Obj.cells #[.int .i64 l, .int .i64 c] 24) = wA at *
  go_loopw [6, 7] (fun x j wr => ∃ (i : Nat) (line : Int), x = .int .i64 line ∧ i ≤ as_.length ∧ j = .int .i64 i ∧ lOk (T s) line ((as_.drop i).map BLn.ln) ∧ Below wA.heap.size wA wr) (fun _ j _ => as_.length - (intOf j).toNat)
  case atStart => exact ⟨0, 0, rfl, Nat.zero_le _, rfl, by rw [List.drop_zero, HBA.out]; exact HLO.out, Below.refl _ _⟩
  case round =>
    obtain ⟨i, line, rfl, hi, rfl, hlo, hbw⟩ := hrel
    have HBW := hide hbw
    clear hbw
    by_cases hlt : i < as_.length
    case neg =>
      have HBW1 := hide (below_wide HB1.out HBW.out)
      have hmr : wr.cell? ⟨0, 0, none⟩ = some (.int .i64 m) := by rw [HBW1.out.cell (p := ⟨0, 0, none⟩) h00]; exact HM.out
      have HMR := hide hmr
      clear hlo hmr HBW HOA HIA
      go_wp2_with fail
      refine (HTK.out _ HMR.out).mono ?_; rintro e5 w5 ⟨vt, bt, hbt, rfl, hot, hb5, hlt5⟩
      obtain ⟨AT, capt, rfl⟩ := own_slice hot
      have HOT := hide ((hot.alloc (Obj.cells #[.int .i64 l2, .int .i64 c2] 24)).alloc (Obj.cells #[.int .i64 0, .int .i64 0] 24))
      have hbB := below_wide HBW1.out hb5
      have HLB : Hid (PosR ((w5.alloc (Obj.cells #[.int .i64 l2, .int .i64 c2] 24)).alloc (Obj.cells #[.int .i64 0, .int .i64 0] 24)) (w5.heap.size + 1) 0 0) := heap_new2 _ _ _
      have HBB := hide ((hbB.alloc hbB.size (Obj.cells #[.int .i64 l2, .int .i64 c2] 24)).alloc (by have := hbB.size; simp; omega) (Obj.cells #[.int .i64 0, .int .i64 0] 24))
      have HBT := hide hbt
      have HGE : Hid (w.heap.size ≤ w5.heap.size + 1) := by show _ ≤ _; have := hbB.size; omega
      clear hot hb5 hbB hbt HMR
      go_wp2_with fail
      generalize (w5.alloc (Obj.cells #[.int .i64 l2, .int .i64 c2] 24)).alloc (Obj.cells #[.int .i64 0, .int .i64 0] 24) = wB at *
      generalize w5.heap.size + 1 = LB at *
      go_loopw [14] (fun j wr => ∃ (i : Nat) (pl pc : Int), j = .int .i64 i ∧ i ≤ bt.length ∧ tOk (T s) pl pc ((bt.drop i).map BTok.tok) ∧ Only LB wB wr ∧ PosR wr LB pl pc) (fun j _ => bt.length - (intOf j).toNat)
      case atStart => exact ⟨0, 0, 0, rfl, Nat.zero_le _, by rw [List.drop_zero, HBT.out]; exact HTO.out, only_refl _ _, HLB.out⟩
      case round =>
        obtain ⟨i, pl, pc, rfl, hi, hto, hon, hpos⟩ := hrel
        have HON := hide hon
        have HPOS := hide hpos
        clear hon hpos
        by_cases hlt : i < bt.length
        case neg =>
          clear hto
          go_wp2_with fail
          go_ret
          exact ⟨rfl, HBB.out.trans (only_below HON.out HGE.out (Nat.le_trans HBB.out.size (Nat.le_refl _)))⟩
        have hne : ts ≠ [] := by rw [← HBT.out]; intro h; rw [List.map_eq_nil_iff] at h; rw [h] at hlt; simp at hlt
        obtain ⟨he, hs16⟩ := HTS.out hne
        rw [T_len] at hs16
        obtain rfl : e2 = 0 := he
        rw [List.drop_eq_getElem_cons hlt, List.map_cons] at hto
        obtain ⟨h1, h2, h3, h4, h5⟩ := hto
        obtain ⟨f0, f1, f2, f3⟩ := flatT_at bt i hlt
        generalize bt[i] = x at *
        obtain ⟨g, cg, hA⟩ := own_at HOT.out (show 0 < bt.length by omega)
        obtain ⟨rfl, rfl⟩ : AT = some ⟨g, 0, none⟩ ∧ capt = cg := by simpa using hA
        have HOW := hide (own_kept HOT.out HON.out (fun k hk => by injection hk with hk; subst hk; exact own_ne_row HOT.out HLB.out (by decide)))
        have hxl : 1 ≤ x.l ∧ x.l ≤ (T s).length + 1 := h2
        have hxc : 1 ≤ x.c ∧ x.c ≤ (T s).length + 1 := h3
        rw [T_len] at hxl hxc
        have HF1 := hide f1
        have HF2 := hide f2
        have HF3 := hide f3
        have a1 := (HOW.out.cellAt (i * 4 + 1) (by omega)).trans f1
        have a2 := (HOW.out.cellAt (i * 4 + 2) (by omega)).trans f2
        have a3 := (HOW.out.cellAt (i * 4 + 3) (by omega)).trans f3
        have HA1 := hide a1
        have HA2 := hide a2
        have HA3 := hide a3
        have q0 := fun o => cell_heap (j := 0) (heap_old (p := o) HPOS.out) rfl
        have q1 := fun o => cell_heap (j := 1) (heap_old (p := o) HPOS.out) rfl
        have HS1 := hide (fun W => stands_any s ⟨#[34]⟩ x.l x.c W hxl.1 (by omega) hxc.1 (by omega) hs16 (by decide))
        have e34 : T (⟨#[34]⟩ : ByteArray) = [34] := rfl
        rw [e34] at HS1
        have HN := hide h5
        have hord : (decide (x.l < pl) = false) ∧ (((x.l == pl) = false) ∨ ((x.l == pl) = true ∧ decide (x.c ≤ pc) = false)) := by
          have h1' : pl < x.l ∨ (x.l = pl ∧ pc < x.c) := h1
          rcases h1' with h | ⟨h, h'⟩
          · exact ⟨by simp; omega, .inl (beq_if (by omega))⟩
          · exact ⟨by simp; omega, .inr ⟨beq_it h, by simp; omega⟩⟩
        obtain ⟨o1, o2⟩ := hord
        have h4' : (standsB (T s) [34] x.l x.c = true ∧ standsB (T s) (T x.b) x.l (x.c + 1) = true) ∨ (standsB (T s) [34] x.l x.c = false ∧ standsB (T s) (T x.b) x.l x.c = true ∧ T x.b ≠ []) := h4
        clear h1 h2 h3 h4 h5 f0 f1 f2 f3 hA hne
        rcases h4' with ⟨h41, h42⟩ | ⟨h41, h42, h43⟩
        · rw [h41] at HS1
          have hsz : x.b.size ≤ 65536 := by
            have := (standsIn_bd h42).2
            have h' := rowAt_len (T s) x.l
            rw [T_len] at this h'
            omega
          have HS2 := hide (fun W => stands_any s x.b x.l (x.c + 1) W hxl.1 (by omega) (by omega) (by omega) hs16 hsz)
          rw [h42] at HS2
          clear h41 h42
          rcases o2 with o2 | ⟨o2, o3⟩
          all_goals
            go_wp2_with fail
            refine (HS1.out _).mono ?_; rintro e6 w6 ⟨rfl, hb6⟩
            have hp6 : PosR w6 wr.heap.size x.l x.c := heapB hb6 (heap_new _ _)
            have HO6 := hide (only_trans (only_alloc HON.out _) (only_of_below (R := LB) hb6))
            have HL6 := hide (show PosR w6 LB pl pc from heapB hb6 (heap_old HPOS.out))
            have HW6 := hide (own_below (HOW.out.alloc (Obj.cells #[.int .i64 x.l, .int .i64 x.c] 24)) hb6)
            have HP6 := hide hp6
            have hLlt := lt_heap HPOS.out
            have hBle := HON.out.size
            have p0 := cell_heap (j := 0) hp6 rfl
            have p1 := cell_heap (j := 1) hp6 rfl
            have fp1 := frozen_heap (j := 1) hp6
            have HP7 := hide (heap_set (j := 1) (u := .int .i64 (x.c + 1)) HP6.out)
            have HL7 := hide (heap_far (p := ⟨wr.heap.size, 1, none⟩) (u := .int .i64 (x.c + 1)) HL6.out (show LB ≠ wr.heap.size by omega))
            have HW7 := hide (ownsRow_setCell_other (a := ⟨wr.heap.size, 1, none⟩) HW6.out (own_ne_row HW6.out HP6.out (by decide)) (.int .i64 (x.c + 1)))
            have HO7 := hide (only_new HO6.out hBle 1 (.int .i64 (x.c + 1)))
            clear hb6 hp6 a1 a2 a3 q0 q1
            go_wp2_with fail
            generalize w6.setCell ⟨wr.heap.size, 1, none⟩ (.int .i64 (x.c + 1)) = w7 at *
            clear p0 p1 fp1
            have p0 := fun y => lat_cell (x := y) (cell_heap (j := 0) HP7.out rfl)
            have p1 := fun y => lat_cell (x := y) (cell_heap (j := 1) HP7.out rfl)
            have b1 := fun y => lat_cell (x := y) ((HW7.out.cellAt (i * 4 + 1) (by omega)).trans HF1.out)
            refine wp_region_lat (by kernel_rfl) (by kernel_rfl) ?_
            repeat (first | go_big_quiet_step ((exact calls_lat (HS2.out _))) | quiet_step ((exact calls_lat (HS2.out _))))
            refine wpQuiet_nil ?_
            intro _ hlat
            obtain ⟨wq, rfl⟩ := hlat
            clear p0 p1
            have HL8 := hide (show PosR (lat w7 wq) LB pl pc from heapB (lat_below _ _) HL7.out)
            have HW8 := hide (own_below HW7.out (lat_below w7 wq))
            have HO8 := hide (only_trans HO7.out (only_of_below (R := LB) (lat_below w7 wq)))
            generalize lat w7 wq = w8 at *
            clear b1
            have b2 := (HW8.out.cellAt (i * 4 + 2) (by omega)).trans HF2.out
            have b3 := (HW8.out.cellAt (i * 4 + 3) (by omega)).trans HF3.out
            have fl0 := frozen_heap (j := 0) HL8.out
            have fl1 := frozen_heap (j := 1) HL8.out
            have l0 := cell_heap (j := 0) HL8.out rfl
            have l1 := cell_heap (j := 1) HL8.out rfl
            go_wp2_with fail
            go_roundw
            case rel => exact ⟨i + 1, x.l, x.c, by go_num, by omega, HN.out, only_set (only_set HO8.out _ _) _ _, heap_set (heap_set HL8.out)⟩
            case measure => simp [intOf]; omega
        · rw [h41] at HS1
          have hsz : x.b.size ≤ 65536 := by
            have := (standsIn_bd h42).2
            have h' := rowAt_len (T s) x.l
            rw [T_len] at this h'
            omega
          have HS2 := hide (fun W => stands_any s x.b x.l x.c W hxl.1 (by omega) hxc.1 (by omega) hs16 hsz)
          rw [h42] at HS2
          have hemp := empty_bits (b := x.b) h43
          clear h41 h42 h43
          rcases o2 with o2 | ⟨o2, o3⟩
          all_goals
            go_wp2_with fail
            refine (HS1.out _).mono ?_; rintro e6 w6 ⟨rfl, hb6⟩
            have hp6 : PosR w6 wr.heap.size x.l x.c := heapB hb6 (heap_new _ _)
            have HO6 := hide (only_trans (only_alloc HON.out _) (only_of_below (R := LB) hb6))
            have HL6 := hide (show PosR w6 LB pl pc from heapB hb6 (heap_old HPOS.out))
            have HW6 := hide (own_below (HOW.out.alloc (Obj.cells #[.int .i64 x.l, .int .i64 x.c] 24)) hb6)
            have HP6 := hide hp6
            have hLlt := lt_heap HPOS.out
            have hBle := HON.out.size
            have p0 := cell_heap (j := 0) hp6 rfl
            have p1 := cell_heap (j := 1) hp6 rfl
            have fp1 := frozen_heap (j := 1) hp6
            have HP7 := HP6
            have HL7 := HL6
            have HW7 := HW6
            have HO7 := HO6
            clear hb6 hp6 a1 a2 a3 q0 q1
            go_wp2_with fail
            obtain ⟨w7, rfl⟩ : ∃ w : World, w = w6 := ⟨_, rfl⟩
            clear p0 p1 fp1
            have p0 := fun y => lat_cell (x := y) (cell_heap (j := 0) HP7.out rfl)
            have p1 := fun y => lat_cell (x := y) (cell_heap (j := 1) HP7.out rfl)
            have b1 := fun y => lat_cell (x := y) ((HW7.out.cellAt (i * 4 + 1) (by omega)).trans HF1.out)
            refine wp_region_lat (by kernel_rfl) (by kernel_rfl) ?_
            repeat (first | go_big_quiet_step ((exact calls_lat (HS2.out _))) | quiet_step ((exact calls_lat (HS2.out _))))
            refine wpQuiet_nil ?_
            intro _ hlat
            obtain ⟨wq, rfl⟩ := hlat
            clear p0 p1
            have HL8 := hide (show PosR (lat w7 wq) LB pl pc from heapB (lat_below _ _) HL7.out)
            have HW8 := hide (own_below HW7.out (lat_below w7 wq))
            have HO8 := hide (only_trans HO7.out (only_of_below (R := LB) (lat_below w7 wq)))
            generalize lat w7 wq = w8 at *
            clear b1
            have b2 := (HW8.out.cellAt (i * 4 + 2) (by omega)).trans HF2.out
            have b3 := (HW8.out.cellAt (i * 4 + 3) (by omega)).trans HF3.out
            have fl0 := frozen_heap (j := 0) HL8.out
            have fl1 := frozen_heap (j := 1) HL8.out
            have l0 := cell_heap (j := 0) HL8.out rfl
            have l1 := cell_heap (j := 1) HL8.out rfl
            go_wp2_with fail
            go_roundw
            case rel => exact ⟨i + 1, x.l, x.c, by go_num, by omega, HN.out, only_set (only_set HO8.out _ _) _ _, heap_set (heap_set HL8.out)⟩
            case measure => simp [intOf]; omega
    have hne : ls ≠ [] := by rw [← HBA.out]; intro h; rw [List.map_eq_nil_iff] at h; rw [h] at hlt; simp at hlt
    obtain ⟨he, hs16⟩ := HLS.out hne
    rw [T_len] at hs16
    obtain rfl : e = 0 := he
    rw [List.drop_eq_getElem_cons hlt, List.map_cons] at hlo
    obtain ⟨h1, ⟨h2, h3⟩, ⟨wd0, wds0, h4, h5⟩, h6, h7⟩ := hlo
    obtain ⟨f0, f1⟩ := flatL_at as_ i hlt
    have hmem := List.getElem_mem hlt
    have hwx := hwa _ hmem
    have hix := HIA.out _ hmem
    generalize as_[i] = x at *
    obtain ⟨g, cg, hA⟩ := own_at HOA.out (show 0 < as_.length by omega)
    obtain ⟨rfl, rfl⟩ : A = some ⟨g, 0, none⟩ ∧ cap = cg := by simpa using hA
    have h4' : x.ws.map BWd.wd = wd0 :: wds0 := h4
    have h6' : wOk (rowAt (T s) x.l) 0 (x.ws.map BWd.wd) := h6
    have h2' : 1 ≤ x.l := h2
    have h3' : x.l ≤ (T s).length + 1 := h3
    have h1' : line < x.l := h1
    rw [T_len] at h3'
    obtain ⟨y, ys, hy, hyc⟩ : ∃ y ys, x.ws = y :: ys ∧ y.c = x.ind + 1 := by
      cases hw : x.ws with
      | nil => rw [hw] at h4'; simp at h4'
      | cons y ys =>
        rw [hw] at h4'
        simp only [List.map_cons, List.cons.injEq] at h4'
        exact ⟨y, ys, rfl, by have := congrArg Wd.c h4'.1; show y.wd.c = _; rw [this]; exact h5⟩
    have hyb : 1 ≤ y.c ∧ y.c ≤ 65537 := by
      rw [hy] at h6'
      have h := standsIn_bd h6'.2.2.1
      have h' := rowAt_len (T s) x.l
      rw [T_len] at h'
      have hb : y.wd.c = y.c := rfl
      omega
    have hwn : 0 < x.ws.length := by rw [hy]; simp
    obtain ⟨gx, cx, hxv⟩ := own_at hix hwn
    have HXO := hide hix
    have HH6 := hide h6'
    have HH7 : Hid (lOk (T s) x.l ((as_.drop (i + 1)).map BLn.ln)) := h7
    have a0 := cellB HBW.out ((HOA.out.cellAt (i * 2) (by omega)).trans f0)
    have a1 := cellB HBW.out ((HOA.out.cellAt (i * 2 + 1) (by omega)).trans f1)
    rw [hxv] at a1
    have c0 := cellB HBW.out (show wA.cell? ⟨gx, 1, none⟩ = some (.int .i64 x.l) by
      have := HXO.out
      unfold WRow at this
      rw [hxv] at this
      rw [this.cellAt 1 (by omega), hy]; rfl)
    have c1 := cellB HBW.out (show wA.cell? ⟨gx, 2, none⟩ = some (.int .i64 y.c) by
      have := HXO.out
      unfold WRow at this
      rw [hxv] at this
      rw [this.cellAt 2 (by omega), hy]; rfl)
    have a0' := fun q => lat_cell (x := q) a0
    have a1' := fun q => lat_cell (x := q) a1
    have c0' := fun q => lat_cell (x := q) c0
    have c1' := fun q => lat_cell (x := q) c1
    have t1 : ((x.ws.length : Int) == 0) = false := beq_if (by omega)
    have t2 : decide (x.l ≤ line) = false := by simp; omega
    have hsum : IntKind.i64.wrap (x.ind + 1) = x.ind + 1 := IntWalk.i64_in _ (by omega)
    have t3 : (y.c != x.ind + 1) = false := by rw [bne, beq_it hyc]; rfl
    have HXV := hide hxv
    have HY := hide hy
    have HYB := hide hyb
    have HF1 := hide f1
    clear h1 h2 h3 h4 h5 h6 h7 h4' h6' hxv hy hix f0 f1 hyc hmem hA hne
    go_wp2_with fail
    refine wp_region_lat (by kernel_rfl) (by kernel_rfl) ?_
    repeat (first | go_big_quiet_step ((fail)) | quiet_step ((fail)))
    refine wpQuiet_nil ?_
    intro _ hlat
    obtain ⟨wq, rfl⟩ := hlat
    go_wp2_with fail
    have HBL := hide (HBW.out.trans ((lat_below wr wq).mono HBW.out.size))
    generalize lat wr wq = wL at *
    have A1 := hide ((HOA.out.cellAt (i * 2 + 1) (by omega)))
    clear a0 a1 c0 c1 a0' a1' c0' c1' t1 t2 hsum t3
    have F1 : Hid ((as_.flatMap BLn.cells)[i * 2 + 1]? = some x.v) := HF1
    clear HF1
    go_loopw [8, 9] (fun cl j wr2 => ∃ (k : Nat) (col : Int), cl = .int .i64 col ∧ k ≤ x.ws.length ∧ j = .int .i64 k ∧ col ≤ 200000 ∧ wOk (rowAt (T s) x.l) col ((x.ws.drop k).map BWd.wd) ∧ Below wA.heap.size wA wr2) (fun _ j _ => x.ws.length - (intOf j).toNat)
    case atStart => exact ⟨0, 0, rfl, Nat.zero_le _, rfl, by omega, HH6.out, HBL.out⟩
    case round =>
      clear HBL HBW
      obtain ⟨k, col, rfl, hk, rfl, hcol, hwo, hbw⟩ := hrel
      have HBW := hide hbw
      clear hbw
      have a1 := cellB HBW.out (A1.out.trans F1.out)
      rw [HXV.out] at a1
      by_cases hkl : k < x.ws.length
      case neg =>
        clear hwo
        go_wp2_with fail
        exact ⟨⟨i + 1, x.l, rfl, by omega, by go_num, HH7.out, HBW.out⟩, by simp [intOf]; omega⟩
      rw [List.drop_eq_getElem_cons hkl, List.map_cons] at hwo
      obtain ⟨h1, h2, h3, h4⟩ := hwo
      obtain ⟨f0, f1, f2⟩ := flatW_at x.l x.ws k hkl
      generalize x.ws[k] = y' at *
      have hyb := standsIn_bd h3
      have hrl := rowAt_len (T s) x.l
      rw [T_len] at hrl
      have hyl : y'.wd.t.length = y'.b.size := T_len _
      have hyc : y'.wd.c = y'.c := rfl
      rw [hyl, hyc] at hyb
      rw [hyc] at h2
      have b0 := cellB HBW.out (show wA.cell? ⟨gx, k * 3, none⟩ = some (.string y'.b) by
        have := HXO.out
        unfold WRow at this
        rw [HXV.out] at this
        rw [this.cellAt (k * 3) (by omega)]; exact f0)
      have b1 := cellB HBW.out (show wA.cell? ⟨gx, k * 3 + 1, none⟩ = some (.int .i64 x.l) by
        have := HXO.out
        unfold WRow at this
        rw [HXV.out] at this
        rw [this.cellAt (k * 3 + 1) (by omega)]; exact f1)
      have b2 := cellB HBW.out (show wA.cell? ⟨gx, k * 3 + 2, none⟩ = some (.int .i64 y'.c) by
        have := HXO.out
        unfold WRow at this
        rw [HXV.out] at this
        rw [this.cellAt (k * 3 + 2) (by omega)]; exact f2)
      have hemp := empty_bits (b := y'.b) h1
      have hxx : (x.l != x.l) = false := by simp
      have hcc : decide (y'.c ≤ col) = false := by simp; omega
      have HSD := hide (fun W => stands_any s y'.b x.l y'.c W h2' (by omega) (by omega) (by omega) hs16 (by omega))
      have hst : standsB (T s) (T y'.b) x.l y'.c = true := h3
      rw [hst] at HSD
      have HN := hide h4
      clear h1 h2 h3 h4 f0 f1 f2 hst
      go_wp2_with fail
      refine (HSD.out _).mono ?_; rintro e5 w5 ⟨rfl, hb5⟩
      have hw5 : w5.heap[wr.heap.size]? = some (.cells #[.string y'.b, .int .i64 x.l, .int .i64 y'.c] 37 (0, 0)) := heapB hb5 (heap_new _ _)
      have z0 := cell_heap (j := 0) hw5 rfl
      have z2 := cell_heap (j := 2) hw5 rfl
      have HB5 := hide (below_wide (HBW.out.alloc HBW.out.size _) hb5)
      clear hw5 hb5 a1 b0 b1 b2 hemp hxx hcc
      go_wp2_with fail
      go_roundw
      case rel => exact ⟨k + 1, y'.c + y'.b.size, rfl, by omega, by go_num, by omega, by have := HN.out; rwa [hyl, hyc] at this, HB5.out⟩
      case measure => simp [intOf]; omega
end Go.Proofs.YtihmmmodimionaaDoor.Lx
