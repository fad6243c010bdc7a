import Derived.Test.YtihmmmodimionaaDoorAG
import Derived.Test.YtihmmmodimionaaDoorPW
namespace Go.Proofs.YtihmmmodimionaaDoor.Lx
open Go.RowKit

theorem tOk_mem {s : List UInt8} : ∀ (ts : List Tok) (pl pc : Int), tOk s pl pc ts → ∀ t ∈ ts, t.t.length ≤ s.length := by
  intro ts
  induction ts with
  | nil => intro pl pc _ t ht; cases ht
  | cons y ys ih =>
    intro pl pc h t ht
    rcases List.mem_cons.1 ht with rfl | ht
    · obtain ⟨_, _, _, h1, _⟩ := h
      have hr := rowAt_len s t.l
      rcases h1 with ⟨_, h⟩ | ⟨_, h, _⟩
      · have := (standsIn_bd h)
        omega
      · have := (standsIn_bd h)
        omega
    · exact ih _ _ h.2.2.2.2 t ht

set_option maxRecDepth 100000 in
set_option maxHeartbeats 4000000 in
theorem anew_any (s gap cm : ByteArray) (g : Nat) (w : World) (hlen : s.size ≤ maxLen) (m : Int) (hm : w.cell? ⟨0, 0, none⟩ = some (.int .i64 m)) (hg : T gap = blk g) (hg1 : 1 ≤ g) (hg3 : g ≤ 3) (hcm : ∀ x ∈ T cm, okB x ∧ x ≠ 32 ∧ x ≠ 42) (hcs : cm.size ≤ 20) :
    Calls Tryd.prog 16 #[.string s, .string gap, .string cm] w fun e w' => e = .returned (.bool true) ∧ Below w.heap.size w w' := by
  have HTK := hide (fun W hW => tokens_any s W hlen m hW)
  have HAG := hide (again_toks (T s) g (T cm) hcm)
  have HLM := hide (tOk_mem _ _ _ (tokRes_tok (T s)))
  have hgs : gap.size = g := by rw [size_T, hg]; simp [blk]
  have HG := hide hg
  generalize (tokRes (T s)).1 = ts at *
  generalize (tokRes (T s)).2 = p at *
  obtain ⟨l, c, e⟩ := p
  have HM := hide hm
  have h00 := lt_of_cell hm
  simp only at h00
  clear hm hcm hg hlen
  go_enter Tryd.func16, Tryd.ntmps16
  go_wp2_with fail
  refine (HTK.out _ HM.out).mono ?_; rintro e1 w1 ⟨va, as_, hba, rfl, hoa, hb1, hla⟩
  obtain ⟨A, cap, rfl⟩ := own_slice hoa
  have HOA := hide (hoa.alloc (Obj.cells #[.int .i64 l, .int .i64 c] 24))
  have HB1 := hide (hb1.alloc hb1.size (Obj.cells #[.int .i64 l, .int .i64 c] 24))
  rw [← hba] at HAG HLM
  clear hoa hb1 hba HTK
  by_cases he : e = 0
  case neg =>
    have he' : (e != 0) = true := by simpa using he
    go_wp2_with fail
    go_ret
    exact ⟨rfl, HB1.out⟩
  subst he
  by_cases hs : 10000 < s.size
  · have hs' : decide ((10000 : Int) < (s.size : Int)) = true := by simp; omega
    go_wp2_with fail
    go_ret
    exact ⟨rfl, HB1.out⟩
  by_cases hn : 1000 < as_.length
  · have hs' : decide ((10000 : Int) < (s.size : Int)) = false := by simp; omega
    have hn' : decide ((1000 : Int) < (as_.length : Int)) = true := by simp; omega
    go_wp2_with fail
    go_ret
    exact ⟨rfl, HB1.out⟩
  have hs' : decide ((10000 : Int) < (s.size : Int)) = false := by simp; omega
  have hn' : decide ((1000 : Int) < (as_.length : Int)) = false := by simp; omega
  go_wp2_with fail
  clear hs' hn'
  generalize w1.alloc (Obj.cells #[.int .i64 l, .int .i64 c] 24) = wA at *
  go_loop [10, 11] (fun x j => ∃ (u : ByteArray) (i : Nat), x = .string u ∧ i ≤ as_.length ∧ j = .int .i64 i ∧ u.size ≤ i * 20000 ∧ T u = anT g (T cm) ((as_.take i).map BTok.tok)) (fun _ j => as_.length - (intOf j).toNat)
  case atStart => exact ⟨_, 0, rfl, Nat.zero_le _, rfl, Nat.le_refl _, rfl⟩
  case round =>
    obtain ⟨u, i, rfl, hi, rfl, hus, hut⟩ := hrel
    have HUT := hide hut
    clear hut
    by_cases hlt : i < as_.length
    case pos =>
      obtain ⟨f0, f1, f2, f3⟩ := flatT_at as_ i hlt
      have hmem := List.getElem_mem hlt
      have hb2 := HLM.out _ (List.mem_map_of_mem (f := BTok.tok) hmem)
      have htk : as_.take (i + 1) = as_.take i ++ [as_[i]] := List.take_succ_eq_append_getElem hlt
      generalize as_[i] = x at *
      obtain ⟨ga, cg, hA⟩ := own_at HOA.out (show 0 < as_.length by omega)
      obtain ⟨rfl, rfl⟩ : A = some ⟨ga, 0, none⟩ ∧ cap = cg := by simpa using hA
      rw [T_len] at hb2
      have hxb : x.b.size ≤ 10000 := by
        have e : x.tok.t.length = x.b.size := T_len _
        omega
      have a0 := (HOA.out.cellAt (i * 4) (by omega)).trans f0
      have a1 := (HOA.out.cellAt (i * 4 + 1) (by omega)).trans f1
      have HTK2 := hide htk
      clear f0 f1 f2 f3 hb2 hmem hA htk
      by_cases hk : x.k = 1
      · have hk' : (x.k == 1) = true := beq_it hk
        have HK := hide hk
        clear hk
        go_wp2_with fail
        go_round
        case rel =>
          refine ⟨_, i + 1, rfl, by omega, by go_num, ?_, ?_⟩
          · simp only [ByteArray.size_append]
            show u.size + (1 + x.b.size + 1) + gap.size + 2 + cm.size + 5 + cm.size + 1 ≤ _
            omega
          · simp only [T_app]
            rw [HUT.out, HTK2.out, List.map_append, anT, anT, List.flatMap_append, HG.out]
            have e : x.tok.k = 1 := HK.out
            simp only [List.map_cons, List.map_nil, List.flatMap_cons, List.flatMap_nil, List.append_nil, tkT, wrT, if_pos e, List.append_assoc, show T (⟨#[34]⟩ : ByteArray) = [34] from rfl, show T (⟨#[47, 42]⟩ : ByteArray) = [47, 42] from rfl, show T (⟨#[42, 47, 32, 35, 32]⟩ : ByteArray) = [42, 47, 32, 35, 32] from rfl, show T (⟨#[10]⟩ : ByteArray) = [10] from rfl, show x.tok.t = T x.b from rfl, List.cons_append, List.nil_append]
        case measure => simp [intOf]; omega
      · have hk' : (x.k == 1) = false := beq_if hk
        have HK := hide hk
        clear hk
        go_wp2_with fail
        go_round
        case rel =>
          refine ⟨_, i + 1, rfl, by omega, by go_num, ?_, ?_⟩
          · simp only [ByteArray.size_append]
            show u.size + x.b.size + gap.size + 2 + cm.size + 5 + cm.size + 1 ≤ _
            omega
          · simp only [T_app]
            rw [HUT.out, HTK2.out, List.map_append, anT, anT, List.flatMap_append, HG.out]
            have e : ¬ x.tok.k = 1 := HK.out
            simp only [List.map_cons, List.map_nil, List.flatMap_cons, List.flatMap_nil, List.append_nil, tkT, wrT, if_neg e, List.append_assoc]
            rfl
        case measure => simp [intOf]; omega
    have hai : as_.take i = as_ := List.take_of_length_le (by omega)
    have HUA : Hid (T u = anT g (T cm) (as_.map BTok.tok)) := by show _ = _; rw [HUT.out, hai]
    clear hai HUT
    have hmA : wA.cell? ⟨0, 0, none⟩ = some (.int .i64 m) := by rw [HB1.out.cell (p := ⟨0, 0, none⟩) h00]; exact HM.out
    have HMA := hide hmA
    have HL2 := hide (fun W hW => tokens_any u W (by unfold maxLen; omega) m hW)
    clear hmA
    go_wp2_with fail
    refine (HL2.out _ HMA.out).mono ?_; rintro e5 w5 ⟨vb, bs, hbb, rfl, hob, hb5, hlb⟩
    obtain ⟨B, capb, rfl⟩ := own_slice hob
    have hpair := HAG.out (by simpa using hn)
    rw [← HUA.out, ← hbb, T_len] at hpair
    have HBB := hide (below_wide HB1.out hb5)
    have HOA2 := hide ((own_below HOA.out hb5).alloc (Obj.cells #[.int .i64 (tokRes (T u)).2.1, .int .i64 (tokRes (T u)).2.2.1] 24))
    have HOB2 := hide (hob.alloc (Obj.cells #[.int .i64 (tokRes (T u)).2.1, .int .i64 (tokRes (T u)).2.2.1] 24))
    have HBC := hide (HBB.out.alloc HBB.out.size (Obj.cells #[.int .i64 (tokRes (T u)).2.1, .int .i64 (tokRes (T u)).2.2.1] 24))
    clear hob hbb hb5 HOA HBB
    generalize (tokRes (T u)).2.2.2 = e2 at *
    generalize (tokRes (T u)).2.2.1 = c2 at *
    generalize (tokRes (T u)).2.1 = l2 at *
    rcases hpair with ⟨rfl, hcore⟩ | ⟨he2, hbig⟩
    case inr =>
      have he2' : (e2 != 0) = true := by simpa using he2
      have hbig' : decide ((65536 : Int) < (u.size : Int)) = true := by simp; omega
      clear he2 hbig
      go_wp2_with fail
      go_ret
      exact ⟨rfl, HBC.out⟩
    have hll : as_.length = bs.length := by have := congrArg List.length hcore; simpa using this.symm
    have hpw : ∀ (i : Nat) (h : i < as_.length), ∃ (k : Int) (b : ByteArray), (as_.flatMap BTok.cells)[i * 4]? = some (.int .u8 k) ∧ (as_.flatMap BTok.cells)[i * 4 + 1]? = some (.string b) ∧ (bs.flatMap BTok.cells)[i * 4]? = some (.int .u8 k) ∧ (bs.flatMap BTok.cells)[i * 4 + 1]? = some (.string b) := by
      intro i h
      have h' : i < bs.length := by omega
      obtain ⟨a0, a1, _, _⟩ := flatT_at as_ i h
      obtain ⟨b0, b1, _, _⟩ := flatT_at bs i h'
      have he : kt (bs[i]).tok = kt (as_[i]).tok := by
        have h1 : ((bs.map BTok.tok).map kt)[i]? = ((as_.map BTok.tok).map kt)[i]? := by rw [hcore]
        simp only [List.getElem?_map, List.getElem?_eq_getElem h, List.getElem?_eq_getElem h', Option.map_some, Option.some.injEq] at h1
        exact h1
      generalize as_[i] = x at *
      generalize bs[i] = y at *
      have he1 : y.k = x.k := congrArg Prod.fst he
      have he2 : T y.b = T x.b := congrArg Prod.snd he
      rw [he1] at b0
      rw [T_inj' he2] at b1
      exact ⟨x.k, x.b, a0, a1, b0, b1⟩
    have HPW := hide hpw
    clear hpw hcore
    rw [← hll] at HOB2
    rw [← hll]
    have hlne : ((as_.length : Int) != (as_.length : Int)) = false := by simp
    go_wp2_with fail
    generalize w5.alloc (Obj.cells #[.int .i64 l2, .int .i64 c2] 24) = wB at *
    clear hlne
    go_loopw [15] (fun j wr => ∃ i : Nat, i ≤ as_.length ∧ j = .int .i64 i ∧ Below wB.heap.size wB wr) (fun j _ => as_.length - (intOf j).toNat)
    case atStart => exact ⟨0, Nat.zero_le _, rfl, Below.refl _ _⟩
    case round =>
      obtain ⟨i, hi, rfl, hbl⟩ := hrel
      have HBW := hide hbl
      clear hbl
      by_cases hlt : i < as_.length
      case neg =>
        go_wp2_with fail
        go_ret
        exact ⟨rfl, HBC.out.trans (HBW.out.mono HBC.out.size)⟩
      obtain ⟨k, b, f0, f1, g0, g1⟩ := HPW.out i hlt
      obtain ⟨ga, cg, hA⟩ := own_at HOA2.out (show 0 < as_.length by omega)
      obtain ⟨rfl, rfl⟩ : A = some ⟨ga, 0, none⟩ ∧ cap = cg := by simpa using hA
      obtain ⟨gb, cg', hB⟩ := own_at HOB2.out (show 0 < as_.length by omega)
      obtain ⟨rfl, rfl⟩ : B = some ⟨gb, 0, none⟩ ∧ capb = cg' := by simpa using hB
      have a0 := (HOA2.out.cellAt (i * 4) (by omega)).trans f0
      have a1 := (HOA2.out.cellAt (i * 4 + 1) (by omega)).trans f1
      have b0 := (HOB2.out.cellAt (i * 4) (by omega)).trans g0
      have b1 := (HOB2.out.cellAt (i * 4 + 1) (by omega)).trans g1
      have q0 := fun z => lat_cell (x := z) (cellB HBW.out a0)
      have q1 := fun z => lat_cell (x := z) (cellB HBW.out a1)
      have r0 := fun z => lat_cell (x := z) (cellB HBW.out b0)
      have r1 := fun z => lat_cell (x := z) (cellB HBW.out b1)
      have k1 : (k != k) = false := by simp
      clear a0 a1 b0 b1 f0 f1 g0 g1 hA hB
      go_wp2_with fail
      refine wp_region_lat (by kernel_rfl) (by kernel_rfl) ?_
      repeat (first | go_big_quiet_step ((fail)) | quiet_step ((fail)))
      refine wpQuiet_nil ?_
      intro _ hlat
      obtain ⟨wq, rfl⟩ := hlat
      go_wp2_with fail
      go_roundw
      case rel => exact ⟨i + 1, by omega, by go_num, HBW.out.trans (lat_below _ _ |>.mono HBW.out.size)⟩
      case measure => simp [intOf]; omega
end Go.Proofs.YtihmmmodimionaaDoor.Lx
