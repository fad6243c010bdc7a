import Derived.Test.YtihmmmodimionaaDoorLQ
import Derived.Test.YtihmmmodimionaaDoorPH
import Derived.IntWalk
import Derived.Outline
namespace Go.Proofs.YtihmmmodimionaaDoor.Lx
open Go.RowKit

theorem T_app (a b : ByteArray) : T (a ++ b) = T a ++ T b := by
  obtain ⟨a⟩ := a
  obtain ⟨b⟩ := b
  unfold T
  simp
theorem T_inj' {a b : ByteArray} (h : T a = T b) : a = b := (T_of h).trans (T_of rfl).symm
theorem wOk_mem {row : List UInt8} : ∀ (ws : List Wd) (col : Int), wOk row col ws → ∀ w ∈ ws, 1 ≤ w.c ∧ w.c - 1 + w.t.length ≤ row.length := by
  intro ws
  induction ws with
  | nil => intro col _ w hw; cases hw
  | cons y ys ih =>
    intro col h w hw
    rcases List.mem_cons.1 hw with rfl | hw
    · exact standsIn_bd h.2.2.1
    · exact ih _ h.2.2.2 w hw
theorem lOk_mem {s : List UInt8} : ∀ (ls : List Ln) (line : Int), lOk s line ls → ∀ x ∈ ls, x.ind ≤ s.length ∧ ∀ w ∈ x.ws, w.t.length ≤ s.length := by
  intro ls
  induction ls with
  | nil => intro line _ x hx; cases hx
  | cons y ys ih =>
    intro line h x hx
    rcases List.mem_cons.1 hx with rfl | hx
    · obtain ⟨_, _, ⟨w, ws, h1, h2⟩, h3, _⟩ := h
      have hm := wOk_mem _ _ h3
      have hr := rowAt_len s x.l
      refine ⟨?_, fun w' hw' => ?_⟩
      · have := hm w (by rw [h1]; simp)
        omega
      · have := hm w' hw'
        omega
    · exact ih _ h.2.2.2.2 x hx

set_option maxRecDepth 100000 in
set_option maxHeartbeats 4000000 in
theorem again_any (s gap cm : ByteArray) (g : Nat) (w : World) (hlen : s.size ≤ maxLen) (m : Int) (hm : w.cell? ⟨0, 0, none⟩ = some (.int .i64 m)) (hg : T gap = blk g) (hg1 : 1 ≤ g) (hg3 : g ≤ 3) (hcm : ∀ x ∈ T cm, okB x ∧ x ≠ 32) (hcs : cm.size ≤ 20) :
    Calls Tryd.prog 15 #[.string s, .string gap, .string cm] w fun e w' => e = .returned (.bool true) ∧ Below w.heap.size w w' := by
  have HLX := hide (fun W hW => lines_any s W hlen m hW)
  have HAG := hide (again_lines (T s) g (T cm) hg1 hcm)
  have HLM := hide (lOk_mem _ _ (linRes_lok (T s)))
  have HGD := hide (linRes_good (T s))
  have hgs : gap.size = g := by rw [size_T, hg]; simp [blk]
  have HG := hide hg
  generalize (linRes (T s)).1 = ls at *
  generalize (linRes (T s)).2 = p at *
  obtain ⟨l, c, e⟩ := p
  have HM := hide hm
  have h00 := lt_of_cell hm
  simp only at h00
  clear hm hcm hg hlen
  go_enter Tryd.func15, Tryd.ntmps15
  go_wp2_with fail
  refine (HLX.out _ HM.out).mono ?_; rintro e1 w1 ⟨va, as_, hba, rfl, hoa, hia, hb1, hla, hwa⟩
  obtain ⟨A, cap, rfl⟩ := own_slice hoa
  have HOA := hide (hoa.alloc (Obj.cells #[.int .i64 l, .int .i64 c] 24))
  have HIA := hide (fun x hx => (hia x hx).alloc (Obj.cells #[.int .i64 l, .int .i64 c] 24))
  have HB1 := hide (hb1.alloc hb1.size (Obj.cells #[.int .i64 l, .int .i64 c] 24))
  rw [← hba] at HAG HLM HGD
  clear hoa hia hb1 hba HLX
  by_cases he : e = 0
  case neg =>
    have he' : (e != 0) = true := by simpa using he
    go_wp2_with fail
    go_ret
    exact ⟨rfl, HB1.out⟩
  subst he
  by_cases hs : 10000 < s.size
  · have hs' : decide ((10000 : Int) < (s.size : Int)) = true := by simp; omega
    go_wp2_with fail
    go_ret
    exact ⟨rfl, HB1.out⟩
  by_cases hn : 1000 < as_.length
  · have hs' : decide ((10000 : Int) < (s.size : Int)) = false := by simp; omega
    have hn' : decide ((1000 : Int) < (as_.length : Int)) = true := by simp; omega
    go_wp2_with fail
    go_ret
    exact ⟨rfl, HB1.out⟩
  have hs' : decide ((10000 : Int) < (s.size : Int)) = false := by simp; omega
  have hn' : decide ((1000 : Int) < (as_.length : Int)) = false := by simp; omega
  go_wp2_with fail
  clear hs' hn'
  generalize w1.alloc (Obj.cells #[.int .i64 l, .int .i64 c] 24) = wA at *
  go_loop [10, 11] (fun x j => ∃ (u : ByteArray) (i : Nat), x = .string u ∧ i ≤ as_.length ∧ j = .int .i64 i ∧ u.size ≤ i * 700000000 ∧ T u = agT g (T cm) ((as_.take i).map BLn.ln)) (fun _ j => as_.length - (intOf j).toNat)
  case atStart => exact ⟨_, 0, rfl, Nat.zero_le _, rfl, Nat.le_refl _, rfl⟩
  case round =>
    obtain ⟨u, i, rfl, hi, rfl, hus, hut⟩ := hrel
    have HUT := hide hut
    clear hut
    by_cases hlt : i < as_.length
    case neg =>
      have hai : as_.take i = as_ := List.take_of_length_le (by omega)
      have HUA : Hid (T u = agT g (T cm) (as_.map BLn.ln)) := by show _ = _; rw [HUT.out, hai]
      clear hai HUT
      have hmA : wA.cell? ⟨0, 0, none⟩ = some (.int .i64 m) := by rw [HB1.out.cell (p := ⟨0, 0, none⟩) h00]; exact HM.out
      have HMA := hide hmA
      have HL2 := hide (fun W hW => lines_any u W (by unfold maxLen; omega) m hW)
      clear hmA
      go_wp2_with fail
      refine (HL2.out _ HMA.out).mono ?_; rintro e5 w5 ⟨vb, bs, hbb, rfl, hob, hib, hb5, hlb, hwb⟩
      obtain ⟨B, capb, rfl⟩ := own_slice hob
      have hpair := HAG.out (by simpa using hn)
      rw [← HUA.out, ← hbb, T_len] at hpair
      have HBB := hide (below_wide HB1.out hb5)
      have HOA2 := hide ((own_below HOA.out hb5).alloc (Obj.cells #[.int .i64 (linRes (T u)).2.1, .int .i64 (linRes (T u)).2.2.1] 24))
      have HIA2 := hide (fun x hx => (own_below (HIA.out x hx) hb5).alloc (Obj.cells #[.int .i64 (linRes (T u)).2.1, .int .i64 (linRes (T u)).2.2.1] 24))
      have HOB2 := hide (hob.alloc (Obj.cells #[.int .i64 (linRes (T u)).2.1, .int .i64 (linRes (T u)).2.2.1] 24))
      have HIB2 := hide (fun x hx => (hib x hx).alloc (Obj.cells #[.int .i64 (linRes (T u)).2.1, .int .i64 (linRes (T u)).2.2.1] 24))
      have HBC := hide (HBB.out.alloc HBB.out.size (Obj.cells #[.int .i64 (linRes (T u)).2.1, .int .i64 (linRes (T u)).2.2.1] 24))
      clear hob hib hbb hb5 HOA HIA HBB
      generalize (linRes (T u)).2.2.2 = e2 at *
      generalize (linRes (T u)).2.2.1 = c2 at *
      generalize (linRes (T u)).2.1 = l2 at *
      rcases hpair with ⟨rfl, hcore⟩ | ⟨he2, hbig⟩
      case inr =>
        have he2' : (e2 != 0) = true := by simpa using he2
        have hbig' : decide ((65536 : Int) < (u.size : Int)) = true := by simp; omega
        clear he2 hbig
        go_wp2_with fail
        go_ret
        exact ⟨rfl, HBC.out⟩
      have hll : as_.length = bs.length := by have := congrArg List.length hcore; simpa using this.symm
      have hpw : ∀ (i : Nat) (h : i < as_.length), ∃ (ind : Int) (n : Nat) (x y : BLn), x ∈ as_ ∧ y ∈ bs ∧ (as_.flatMap BLn.cells)[i * 2]? = some (.int .i64 ind) ∧ (as_.flatMap BLn.cells)[i * 2 + 1]? = some x.v ∧ (bs.flatMap BLn.cells)[i * 2]? = some (.int .i64 ind) ∧ (bs.flatMap BLn.cells)[i * 2 + 1]? = some y.v ∧ x.ws.length = n ∧ y.ws.length = n ∧ x.ws.map BWd.b = y.ws.map BWd.b := by
        intro i h
        have h' : i < bs.length := by omega
        obtain ⟨a0, a1⟩ := flatL_at as_ i h
        obtain ⟨b0, b1⟩ := flatL_at bs i h'
        have he : core (bs[i]).ln = core (as_[i]).ln := by
          have h1 : ((bs.map BLn.ln).map core)[i]? = ((as_.map BLn.ln).map core)[i]? := by rw [hcore]
          simp only [List.getElem?_map, List.getElem?_eq_getElem h, List.getElem?_eq_getElem h', Option.map_some, Option.some.injEq] at h1
          exact h1
        have m1 := List.getElem_mem h
        have m2 := List.getElem_mem h'
        generalize as_[i] = x at *
        generalize bs[i] = y at *
        have he1 : y.ind = x.ind := congrArg Prod.fst he
        have he2 : (y.ws.map BWd.wd).map Wd.t = (x.ws.map BWd.wd).map Wd.t := congrArg Prod.snd he
        rw [he1] at b0
        have hb : x.ws.map BWd.b = y.ws.map BWd.b := by
          have e3 : ∀ l l' : List BWd, (l.map BWd.wd).map Wd.t = (l'.map BWd.wd).map Wd.t → l.map BWd.b = l'.map BWd.b := by
            intro l
            induction l with
            | nil => intro l' h; cases l' with
              | nil => rfl
              | cons => simp at h
            | cons z zs ih =>
              intro l' h
              cases l' with
              | nil => simp at h
              | cons z' zs' =>
                simp only [List.map_cons, List.cons.injEq] at h ⊢
                exact ⟨T_inj' h.1, ih zs' h.2⟩
          exact (e3 _ _ he2).symm
        have hl : y.ws.length = x.ws.length := by have := congrArg List.length hb; simpa using this.symm
        exact ⟨x.ind, x.ws.length, x, y, m1, m2, a0, a1, b0, b1, rfl, hl, hb⟩
      have HPW := hide hpw
      clear hpw hcore
      have hwb' : ∀ x ∈ as_, x.ws.length ≤ 65536 := hwa
      rw [← hll] at HOB2
      rw [← hll]
      have hlne : ((as_.length : Int) != (as_.length : Int)) = false := by simp
      go_wp2_with fail
      generalize w5.alloc (Obj.cells #[.int .i64 l2, .int .i64 c2] 24) = wB at *
      clear hlne
      go_loopw [16] (fun j wr => ∃ i : Nat, i ≤ as_.length ∧ j = .int .i64 i ∧ Below wB.heap.size wB wr) (fun j _ => as_.length - (intOf j).toNat)
      case atStart => exact ⟨0, Nat.zero_le _, rfl, Below.refl _ _⟩
      case round =>
        obtain ⟨i, hi, rfl, hbl⟩ := hrel
        have HBW := hide hbl
        clear hbl
        by_cases hlt : i < as_.length
        case neg =>
          go_wp2_with fail
          go_ret
          exact ⟨rfl, HBC.out.trans (HBW.out.mono HBC.out.size)⟩
        obtain ⟨ind, n, x, y, mx, my, f0, f1, g0, g1, hxn, hyn, hxy⟩ := HPW.out i hlt
        obtain ⟨ga, cg, hA⟩ := own_at HOA2.out (show 0 < as_.length by omega)
        obtain ⟨rfl, rfl⟩ : A = some ⟨ga, 0, none⟩ ∧ cap = cg := by simpa using hA
        obtain ⟨gb, cg', hB⟩ := own_at HOB2.out (show 0 < as_.length by omega)
        obtain ⟨rfl, rfl⟩ : B = some ⟨gb, 0, none⟩ ∧ capb = cg' := by simpa using hB
        have hix := HIA2.out x mx
        have hiy := HIB2.out y my
        obtain ⟨X, cx, hxv⟩ := own_slice hix
        obtain ⟨Y, cy, hyv⟩ := own_slice hiy
        have hnb := hwa x mx
        rw [hxn] at hxv hnb
        rw [hyn] at hyv
        have a0 := (HOA2.out.cellAt (i * 2) (by omega)).trans f0
        have a1 := (HOA2.out.cellAt (i * 2 + 1) (by omega)).trans f1
        have b0 := (HOB2.out.cellAt (i * 2) (by omega)).trans g0
        have b1 := (HOB2.out.cellAt (i * 2 + 1) (by omega)).trans g1
        rw [hxv] at a1
        rw [hyv] at b1
        have HA1 := hide a1
        have HB1' := hide b1
        have q0 := fun z => lat_cell (x := z) (cellB HBW.out a0)
        have q1 := fun z => lat_cell (x := z) (cellB HBW.out a1)
        have r0 := fun z => lat_cell (x := z) (cellB HBW.out b0)
        have r1 := fun z => lat_cell (x := z) (cellB HBW.out b1)
        have HIX := hide hix
        have HIY := hide hiy
        have HXV := hide hxv
        have HYV := hide hyv
        have HXN := hide hxn
        have HYN := hide hyn
        have HXY := hide hxy
        have k1 : (ind != ind) = false := by simp
        have k2 : ((n : Int) != (n : Int)) = false := by simp
        clear a0 a1 b0 b1 f0 f1 g0 g1 hix hiy hxv hyv hxn hyn hxy hA hB mx my
        go_wp2_with fail
        refine wp_region_lat (by kernel_rfl) (by kernel_rfl) ?_
        repeat (first | go_big_quiet_step ((fail)) | quiet_step ((fail)))
        refine wpQuiet_nil ?_
        intro _ hlat
        obtain ⟨wq, rfl⟩ := hlat
        have HBW2 := hide (HBW.out.trans (lat_below wr wq |>.mono HBW.out.size))
        generalize lat wr wq = w2 at *
        clear q0 q1 r0 r1 HBW k1 k2
        go_wp2_with fail
        go_loopw [17] (fun j wr => ∃ k : Nat, k ≤ n ∧ j = .int .i64 k ∧ Below wB.heap.size wB wr) (fun j _ => n - (intOf j).toNat)
        case atStart => exact ⟨0, Nat.zero_le _, rfl, HBW2.out⟩
        case round =>
          clear HBW2
          obtain ⟨k, hk, rfl, hbl⟩ := hrel
          have HBW := hide hbl
          clear hbl
          have s1 := cellB HBW.out HA1.out
          by_cases hkl : k < n
          case neg =>
            go_wp2_with fail
            exact ⟨⟨i + 1, by omega, by go_num, HBW.out⟩, by simp [intOf]; omega⟩
          have hkx : k < x.ws.length := by rw [HXN.out]; exact hkl
          have hky : k < y.ws.length := by rw [HYN.out]; exact hkl
          obtain ⟨gx, cx', hxv⟩ := own_at HIX.out (show 0 < x.ws.length by omega)
          rw [HXV.out] at hxv
          obtain ⟨rfl, rfl⟩ : X = some ⟨gx, 0, none⟩ ∧ cx = cx' := by
            have : X = some ⟨gx, 0, none⟩ ∧ n = x.ws.length ∧ cx = cx' := by simpa using hxv
            exact ⟨this.1, this.2.2⟩
          obtain ⟨gy, cy', hyv⟩ := own_at HIY.out (show 0 < y.ws.length by omega)
          rw [HYV.out] at hyv
          obtain ⟨rfl, rfl⟩ : Y = some ⟨gy, 0, none⟩ ∧ cy = cy' := by
            have : Y = some ⟨gy, 0, none⟩ ∧ n = y.ws.length ∧ cy = cy' := by simpa using hyv
            exact ⟨this.1, this.2.2⟩
          have hbb : (x.ws[k]).b = (y.ws[k]).b := by
            have h1 : (x.ws.map BWd.b)[k]? = (y.ws.map BWd.b)[k]? := by rw [HXY.out]
            simpa [hkx, hky] using h1
          have a0 : wB.cell? ⟨gx, k * 3, none⟩ = some (.string (x.ws[k]).b) := by
            have := HIX.out
            unfold WRow at this
            rw [HXV.out, ← HXN.out] at this
            rw [this.cellAt (k * 3) (by omega)]; exact (flatW_at x.l x.ws k hkx).1
          have b0 : wB.cell? ⟨gy, k * 3, none⟩ = some (.string (x.ws[k]).b) := by
            have := HIY.out
            unfold WRow at this
            rw [HYV.out, ← HYN.out] at this
            rw [this.cellAt (k * 3) (by omega), (flatW_at y.l y.ws k hky).1, hbb]
          generalize (x.ws[k]).b = txt at *
          have q0 := fun z => lat_cell (x := z) (cellB HBW.out a0)
          have q1 := fun z => lat_cell (x := z) (cellB HBW.out HA1.out)
          have r0 := fun z => lat_cell (x := z) (cellB HBW.out b0)
          have r1 := fun z => lat_cell (x := z) (cellB HBW.out HB1'.out)
          clear a0 b0 hbb hxv hyv hkx hky
          go_wp2_with fail
          refine wp_region_lat (by kernel_rfl) (by kernel_rfl) ?_
          repeat (first | go_big_quiet_step ((fail)) | quiet_step ((fail)))
          refine wpQuiet_nil ?_
          intro _ hlat
          obtain ⟨wq, rfl⟩ := hlat
          go_wp2_with fail
          go_roundw
          case rel => exact ⟨k + 1, by omega, by go_num, HBW.out.trans (lat_below _ _ |>.mono HBW.out.size)⟩
          case measure => simp [intOf]; omega
    obtain ⟨f0, f1⟩ := flatL_at as_ i hlt
    have hmem := List.getElem_mem hlt
    have hwx := hwa _ hmem
    have hix := HIA.out _ hmem
    obtain ⟨hb1, hb2⟩ := HLM.out _ (List.mem_map_of_mem (f := BLn.ln) hmem)
    have hb3 := (HGD.out _ (List.mem_map_of_mem (f := BLn.ln) hmem)).ind
    have htk : as_.take (i + 1) = as_.take i ++ [as_[i]] := List.take_succ_eq_append_getElem hlt
    generalize as_[i] = x at *
    obtain ⟨ga, cg, hA⟩ := own_at HOA.out (show 0 < as_.length by omega)
    obtain ⟨rfl, rfl⟩ : A = some ⟨ga, 0, none⟩ ∧ cap = cg := by simpa using hA
    obtain ⟨X, cx, hxv⟩ := own_slice hix
    rw [T_len] at hb1 hb2
    have hxi : 0 ≤ x.ind ∧ x.ind ≤ 10000 := ⟨hb3, by have : x.ln.ind = x.ind := rfl; omega⟩
    obtain ⟨ind, hind⟩ : ∃ n : Nat, x.ind = n := ⟨x.ind.toNat, by omega⟩
    rw [hind] at hxi
    have HIND := hide hind
    have HB2 : Hid (∀ y ∈ x.ws, y.b.size ≤ 10000) := fun y hy => by
      have := hb2 y.wd (List.mem_map_of_mem (f := BWd.wd) hy)
      have e : y.wd.t.length = y.b.size := T_len _
      omega
    have a0 := (HOA.out.cellAt (i * 2) (by omega)).trans f0
    have a1 := (HOA.out.cellAt (i * 2 + 1) (by omega)).trans f1
    rw [hxv] at a1
    rw [hind] at a0
    have HIX := hide hix
    have HXV := hide hxv
    have HTK := hide htk
    clear f0 f1 hb1 hb2 hb3 hind hmem hA hix hxv htk
    go_wp2_with fail
    go_loop [10, 12] (fun y j => ∃ (u' : ByteArray) (k : Nat), y = .string u' ∧ k ≤ ind ∧ j = .int .i64 k ∧ u'.size ≤ u.size + k ∧ T u' = T u ++ blk k) (fun _ j => ind - (intOf j).toNat)
    case atStart => exact ⟨u, 0, rfl, Nat.zero_le _, rfl, Nat.le_refl _, by simp [blk]⟩
    case round =>
      obtain ⟨u', k, rfl, hk, rfl, hu1, hu2⟩ := hrel
      have HU2 := hide hu2
      clear hu2
      by_cases hkl : k < ind
      · go_wp2_with fail
        go_round
        case rel => exact ⟨_, k + 1, rfl, by omega, by go_num, by rw [ByteArray.size_append]; show u'.size + 1 ≤ _; omega, by rw [T_app, HU2.out, List.append_assoc]; congr 1; simp [blk, List.replicate_succ']; rfl⟩
        case measure => simp [intOf]; omega
      obtain rfl : k = ind := by omega
      go_wp2_with fail
      go_loop [10, 13] (fun y j => ∃ (u2 : ByteArray) (q : Nat), y = .string u2 ∧ q ≤ x.ws.length ∧ j = .int .i64 q ∧ u2.size ≤ u'.size + q * 10003 ∧ T u2 = T u' ++ ((x.ws.take q).map BWd.wd).flatMap (fun w => w.t ++ blk g)) (fun _ j => x.ws.length - (intOf j).toNat)
      case atStart => exact ⟨u', 0, rfl, Nat.zero_le _, rfl, by omega, by simp⟩
      case round =>
        obtain ⟨u2, q, rfl, hq, rfl, hv1, hv2⟩ := hrel
        have HV2 := hide hv2
        clear hv2
        by_cases hql : q < x.ws.length
        · obtain ⟨gx, cx', hxv'⟩ := own_at HIX.out (show 0 < x.ws.length by omega)
          rw [HXV.out] at hxv'
          obtain ⟨rfl, rfl⟩ : X = some ⟨gx, 0, none⟩ ∧ cx = cx' := by simpa using hxv'
          obtain ⟨f0, f1, f2⟩ := flatW_at x.l x.ws q hql
          have hyb := HB2.out _ (List.getElem_mem hql)
          have htk2 : x.ws.take (q + 1) = x.ws.take q ++ [x.ws[q]] := List.take_succ_eq_append_getElem hql
          generalize x.ws[q] = y at *
          have b0 : wA.cell? ⟨gx, q * 3, none⟩ = some (.string y.b) := by
            have := HIX.out
            unfold WRow at this
            rw [HXV.out] at this
            rw [this.cellAt (q * 3) (by omega)]; exact f0
          have HTK2 := hide htk2
          clear f0 f1 f2 htk2 hxv'
          go_wp2_with fail
          go_round
          case rel =>
            refine ⟨_, q + 1, rfl, by omega, by go_num, by rw [ByteArray.size_append, ByteArray.size_append]; omega, ?_⟩
            rw [T_app, T_app, HV2.out, HTK2.out, List.map_append, List.flatMap_append, HG.out]
            simp [BWd.wd]
          case measure => simp [intOf]; omega
        obtain rfl : q = x.ws.length := by omega
        go_wp2_with fail
        refine ⟨⟨_, i + 1, rfl, by omega, by go_num, ?_, ?_⟩, by simp [intOf]; omega⟩
        · rw [ByteArray.size_append, ByteArray.size_append, ByteArray.size_append]
          show u2.size + 5 + cm.size + 2 ≤ _
          omega
        · rw [T_app, T_app, T_app, HV2.out, HU2.out, HUT.out, HTK.out, List.map_append, agT, agT, List.flatMap_append, List.take_length]
          have e : x.ln.ind.toNat = k := by show x.ind.toNat = k; rw [HIND.out]; simp
          simp only [List.map_cons, List.map_nil, List.flatMap_cons, List.flatMap_nil, List.append_nil, lnT, e, List.append_assoc]
          rfl
end Go.Proofs.YtihmmmodimionaaDoor.Lx
