/- What the claim leans on, part 15 of 16: YR. -/
import Derived.Test.YtihmmmodimionaaWr01
import Derived.Test.YtihmmmodimionaaWr02
import Derived.Test.YtihmmmodimionaaWr03
import Derived.Test.YtihmmmodimionaaWr04
import Derived.Test.YtihmmmodimionaaWr05
import Derived.Test.YtihmmmodimionaaWr06
import Derived.Test.YtihmmmodimionaaWr07
import Derived.Test.YtihmmmodimionaaWr08
import Derived.Test.YtihmmmodimionaaWr09
import Derived.Test.YtihmmmodimionaaWr10
import Derived.Test.YtihmmmodimionaaWr11
import Derived.Test.YtihmmmodimionaaWr12
import Derived.Test.YtihmmmodimionaaWr13
import Derived.Test.YtihmmmodimionaaWr14
/- TreeWrites, walked. -/
namespace Go.Proofs.Ytihmmmodimionaa.Tr
open Go.RowKit Go.Proofs.Ytihmmmodimionaa Go.Proofs.Ytihmmmodimionaa.Lx

/-- what lies in memory behind good and nodes -/
structure Wt (w w1 w2 w3 x : World) (RL RM : List RowD) (F G : Fo) (A1 A2 A3 A4 Q : Option Addr) (c1 c2 c3 c4 q : Nat) (x1 x2 y3 y4 : List Value) (D1 D2 B3 B4 : Nat → Prop) (us : List ByteArray) : Prop where
  l : Rg w x (.slice A1 RL.length c1) RL x1 D1
  m : Rg w1 x (.slice A2 RM.length c2) RM x2 D2
  a : LoS w2 x (.slice A3 F.len c3) F y3 B3
  b : LoS w3 x (.slice A4 G.len c4) G y4 B4
  u : Src x Q us.length q 1 (us.map Value.string)
theorem Wt.below {w w1 w2 w3 x y : World} {RL RM : List RowD} {F G : Fo} {A1 A2 A3 A4 Q : Option Addr} {c1 c2 c3 c4 q : Nat} {x1 x2 y3 y4 : List Value} {D1 D2 B3 B4 : Nat → Prop} {us : List ByteArray} (h : Wt w w1 w2 w3 x RL RM F G A1 A2 A3 A4 Q c1 c2 c3 c4 q x1 x2 y3 y4 D1 D2 B3 B4 us) (hb : Below x.heap.size x y) : Wt w w1 w2 w3 y RL RM F G A1 A2 A3 A4 Q c1 c2 c3 c4 q x1 x2 y3 y4 D1 D2 B3 B4 us :=
  ⟨h.l.below hb, h.m.below hb, h.a.grow (grown_of_below hb) (fun b e => by cases e), h.b.grow (grown_of_below hb) (fun b e => by cases e), h.u.below hb⟩
theorem own_ltA {w : World} {base size n c : Nat} {A : Option Addr} {t : TypeId} {xs : List Value} (h : w.ownsRow base t size (.slice A n c) n xs) : ∀ a, A = some a → a.block < w.heap.size := fun a ha => (h.lt a.block (by rw [ha]; rfl)).2
theorem find_ok {us : List ByteArray} {A : List RowD} {i : Nat} (h : findF us (nodesF A.length 0 A) = findF us (nodesF A.length 0 (outR 0 (A.drop i)))) (hi : A.length ≤ i) : findF us (nodesF A.length 0 A) = none := by rw [h, find_end hi]
theorem mem_in {d i : Nat} {A : List RowD} {r : RowD} (h : r ∈ inR d (A.drop i)) : r ∈ A :=
  List.mem_of_mem_drop (by rw [← in_out d (A.drop i)]; exact List.mem_append_left _ h)
theorem kb_of (L : List RowI) (hw : ∀ r ∈ L, ∀ w ∈ r.ws, w.size ≤ 1048576) {K : Fo} {i : Nat} (h : rowsF 1 K = inR 0 ((goodR 0 0 L).drop i)) : Gd K ∧ dpF 1 K = true ∧ szF K ≤ 2040 ∧ K.nodes ≤ 120 ∧ ∀ r ∈ rowsF 1 K, r.ws.length ≤ 1099511627776 ∧ r.ps.length ≤ 1099511627776 := by
  have hall := okR_all _ 0 (by omega) (good_ok L 0 0)
  have hk : ∀ r ∈ rowsF 1 K, r.deep ≤ 30 ∧ 1 ≤ r.ws.length ∧ r.ws.length ≤ 8 ∧ r.ps.length = r.ws.length := fun r hr => hall r (mem_in (by rw [← h]; exact hr))
  have hlen : (rowsF 1 K).length ≤ 120 := by
    have h1 := in_len 0 ((goodR 0 0 L).drop i)
    rw [List.length_drop] at h1
    have h2 := good_len L 0 0
    rw [h]
    omega
  refine ⟨Gd_rows K 1 (fun r hr => by have := hk r hr; omega), dp_rows K 1 (fun r hr => by have := hk r hr; omega), ?_, by rw [← nodes_rows K 1]; exact hlen, fun r hr => by have := hk r hr; omega⟩
  rw [sz_rows K 1]
  have := rsz_le _ (fun r hr => ⟨(hk r hr).2.2.1, (hk r hr).2.2.2⟩)
  omega
set_option maxHeartbeats 8000000 in
set_option maxRecDepth 100000 in
theorem writes_any (L M : List RowI) (us : List ByteArray) (A B Q : Option Addr) (c d q : Nat) (xs ys : List Value) (BB : Nat → Prop) (w : World) (hs : Src w A L.length c 4 xs) (hv : RiV w BB L xs) (ht : Src w B M.length d 4 ys) (hu : RiV w BB M ys) (hB : ∀ b, BB b → b < w.heap.size) (hl : L.length ≤ 1048576) (hl2 : M.length ≤ 1048576) (hw : ∀ r ∈ L, ∀ w ∈ r.ws, w.size ≤ 1048576) (hw2 : ∀ r ∈ M, ∀ w ∈ r.ws, w.size ≤ 1048576) (hus : Src w Q us.length q 1 (us.map Value.string)) (hul : us.length ≤ 1048576) (m : Int) (hm : w.cell? ⟨0, 0, none⟩ = some (.int .i64 m)) :
    Calls Try.prog 7 #[.slice A L.length c, .slice B M.length d, .slice Q us.length q] w fun e w' => e = .returned (.bool true) ∧ Below w.heap.size w w' := by
  have h0 := lt_of_cell hm
  simp only at h0
  have HM := hide hm
  have HS := hide hs
  have HV := hide hv
  have HT := hide ht
  have HU := hide hu
  have HB := hide hB
  have HUS := hide hus
  have HFL := hide (fg_of L hw)
  have HFM := hide (fg_of M hw2)
  have HOL := hide (good_ok L 0 0)
  have HWL := hide (show ∀ r ∈ goodR 0 0 L, ∀ u ∈ r.ws, u.size ≤ 1048576 from fun r hr u hu => by
    obtain ⟨q, hq, e⟩ := good_words L 0 0 r hr
    rw [e] at hu
    exact hw q hq u hu)
  have HPG := hide (print_good L)
  have HSR := hide (same_rows L M)
  have HKB := hide (fun (K : Fo) (i : Nat) (h : rowsF 1 K = inR 0 ((goodR 0 0 L).drop i)) => kb_of L hw h)
  clear hs hv ht hu hB hus hw hw2 hm
  go_enter Try.func7, Try.ntmps7
  go_wp2_with fail
  refine (good_any L A c xs BB w HS.out HV.out HB.out (by omega)).mono ?_
  rintro e w1 ⟨hb1, v1, x1, D1, rfl, hg1, -⟩
  obtain ⟨A1, c1, rfl⟩ := own_slice hg1.own
  have HB1 := hide hb1
  have HG1 := hide hg1
  have HG := hide (good_any M B d ys BB w1 (HT.out.below hb1) (HU.out.keep (fun b hb => hb1.block b (HB.out b hb))) (fun b hb => Nat.lt_of_lt_of_le (HB.out b hb) hb1.size) (by omega))
  clear hb1 hg1
  go_wp2_with fail
  refine HG.out.mono ?_
  rintro e w2 ⟨hb2, v2, x2, D2, rfl, hg2, -⟩
  obtain ⟨A2, c2, rfl⟩ := own_slice hg2.own
  have HB2 := hide (below_lo HB1.out hb2 HB1.out.size)
  have HG1' := hide (HG1.out.below hb2)
  have HG2 := hide hg2
  have hcap1 := own_caps HG1'.out.own
  have hcap2 := own_caps hg2.own
  have hgl := HFL.out.len
  have hgm := HFM.out.len
  have HN1 := hide (nodes_any (goodR 0 0 L).length (goodR 0 0 L) rfl 0 A1 c1 x1 D1 w2 (own_src HG1'.out.own) HG1'.out.rw' (fun q hq => (HG1'.out.hD q hq).1) (own_ltA HG1'.out.own) hcap1.1 hcap1.2.1 (by omega) (fun r hr => by have := HFL.out.ws r hr; omega) (by omega))
  clear hb2 hg2 HG HG1
  go_wp2_with fail
  refine HN1.out.mono ?_
  rintro e w3 ⟨hb3, v3, y3, B3, rfl, hl3⟩
  obtain ⟨A3, c3, rfl⟩ := own_slice hl3.own
  have HB3 := hide (below_lo HB2.out hb3 HB2.out.size)
  have HL3 := hide hl3
  have HG1 := hide (HG1'.out.below hb3)
  have HG2' := hide (HG2.out.below hb3)
  have HN2 := hide (nodes_any (goodR 0 0 M).length (goodR 0 0 M) rfl 0 A2 c2 x2 D2 w3 (own_src HG2'.out.own) HG2'.out.rw' (fun q hq => (HG2'.out.hD q hq).1) (own_ltA HG2'.out.own) hcap2.1 hcap2.2.1 (by omega) (fun r hr => by have := HFM.out.ws r hr; omega) (by omega))
  have hsz23 := hb3.size
  clear hb3 hl3 HN1 HG2 HG1'
  go_wp2_with fail
  refine HN2.out.mono ?_
  rintro e w4 ⟨hb4, v4, y4, B4, rfl, hl4⟩
  obtain ⟨A4, c4, rfl⟩ := own_slice hl4.own
  have HB4 := hide (below_lo HB3.out hb4 HB3.out.size)
  have HW4 := hide (show Wt w w1 w2 w3 w4 (goodR 0 0 L) (goodR 0 0 M) (forG L) (forG M) A1 A2 A3 A4 Q c1 c2 c3 c4 q x1 x2 y3 y4 D1 D2 B3 B4 us from ⟨HG1.out.below hb4, HG2'.out.below hb4, HL3.out.grow (grown_of_below hb4) (fun b e => by cases e), hl4, HUS.out.below HB4.out⟩)
  have hsz34 := hb4.size
  clear hb4 hl4 HN2 HG1 HG2' HL3 HUS HS HT HU HV HB
  have HPR := hide (print_any (forG L) A3 c3 y3 B3 w4 (own_src HW4.out.a.own) HW4.out.a.fo (fun q hq => (HW4.out.a.hB q hq).2.1) (own_ltA HW4.out.a.own) HFL.out.wt HFL.out.wb m (cell_lo HB4.out (a := ⟨0, 0, none⟩) h0 HM.out))
  obtain ⟨u, e0, hpv⟩ : ∃ (u : ByteArray) (e0 : Int), printV (writeF 0 (forG L)) = .tuple #[.string u, .int .i64 e0] := by
    cases hwf : writeF 0 (forG L) with
    | none => exact ⟨_, _, printV_none⟩
    | some t => exact ⟨_, _, printV_some t⟩
  have HPV := hide (show printV (prR 0 (goodR 0 0 L)) = .tuple #[.string u, .int .i64 e0] from by rw [HPG.out]; exact hpv)
  rw [hpv] at HPR
  clear hpv HPG
  go_wp2_with fail
  refine HPR.out.mono ?_
  rintro e w5 ⟨rfl, hb5⟩
  have HB5 := hide (below_lo HB4.out hb5 HB4.out.size)
  have HW5 := hide (HW4.out.below hb5)
  have HRP := hide (rprint_any (goodR 0 0 L) A1 c1 x1 D1 w5 (own_src HW5.out.l.own) HW5.out.l.rw' HOL.out HFL.out.len HWL.out)
  rw [HPV.out] at HRP
  have hsz45 := hb5.size
  clear hb5 HPR HPV HW4
  go_wp2_with fail
  refine HRP.out.mono ?_
  rintro e w5' ⟨rfl, hw5⟩
  subst w5'
  have HSA := hide (tsame_any _ (forG L) rfl (forG M) A3 A4 c3 c4 y3 y4 B3 B4 w5 (own_src HW5.out.a.own) HW5.out.a.fo (own_src HW5.out.b.own) HW5.out.b.fo (own_ltA HW5.out.a.own) (own_ltA HW5.out.b.own) (fun q hq => (HW5.out.a.hB q hq).2.1) (fun q hq => (HW5.out.b.hB q hq).2.1) (by have := HFL.out.sz; omega) (by have := HFM.out.sz; omega))
  rw [HSR.out] at HSA
  clear HRP HSR
  go_wp2_with fail
  refine HSA.out.mono ?_
  rintro e w6 ⟨rfl, hb6⟩
  have HB6 := hide (below_lo HB5.out hb6 HB5.out.size)
  have HW6 := hide (HW5.out.below hb6)
  have HSB := hide (rSame_any (goodR 0 0 L) (goodR 0 0 M) A1 A2 c1 c2 x1 x2 D1 D2 w6 (own_src HW6.out.l.own) HW6.out.l.rw' (own_src HW6.out.m.own) HW6.out.m.rw' (by omega) (by omega) (fun r hr => by have := HFL.out.ws r hr; omega) (fun r hr => by have := HFM.out.ws r hr; omega))
  have hsz56 := hb6.size
  clear hb6 HSA HW5
  generalize sameR (goodR 0 0 L) (goodR 0 0 M) = sv at *
  go_wp2_with fail
  refine HSB.out.mono ?_
  rintro e w7 ⟨rfl, hb7⟩
  have HB7 := hide (below_lo HB6.out hb7 HB6.out.size)
  have HW7 := hide (HW6.out.below hb7)
  have HSC := hide (tsame_any _ (forG L) rfl (forG L) A3 A3 c3 c3 y3 y3 B3 B3 w7 (own_src HW7.out.a.own) HW7.out.a.fo (own_src HW7.out.a.own) HW7.out.a.fo (own_ltA HW7.out.a.own) (own_ltA HW7.out.a.own) (fun q hq => (HW7.out.a.hB q hq).2.1) (fun q hq => (HW7.out.a.hB q hq).2.1) (by have := HFL.out.sz; omega) (by have := HFL.out.sz; omega))
  rw [sameF_refl] at HSC
  have hsz67 := hb7.size
  clear hb7 HSB HW6
  have hbn : (sv != sv) = false := by simp
  go_wp2_with fail
  refine HSC.out.mono ?_
  rintro e w8 ⟨rfl, hb8⟩
  have HB8 := hide (below_lo HB7.out hb8 HB7.out.size)
  have HW8 := hide (HW7.out.below hb8)
  have HFD := hide (find_any us (forG L) A3 Q c3 q y3 B3 w8 (own_src HW8.out.a.own) HW8.out.a.fo (fun q hq => (HW8.out.a.hB q hq).2.1) (own_ltA HW8.out.a.own) (by have := HFL.out.sz; omega) HFL.out.gd HW8.out.u (by omega))
  have hsz78 := hb8.size
  clear hb8 HSC HW7 hbn
  go_wp2_with fail
  refine HFD.out.mono ?_
  rintro e w9 ⟨hb9, hfd⟩
  have HB9 := hide (below_lo HB8.out hb9 HB8.out.size)
  have HW9 := hide (HW8.out.below hb9)
  have hsz89 := hb9.size
  have HFS := hide (find_start (us := us) (goodR 0 0 L).length HOL.out)
  clear hb9 HFD
  cases hfi : findF us (forG L) with
  | none =>
    rw [hfi] at hfd
    obtain rfl := hfd
    have HFI := hide hfi
    clear hfi
    go_wp2_with fail
    go_loopw [15] (fun j wr => ∃ i : Nat, j = .int .i64 i ∧ i ≤ (goodR 0 0 L).length ∧ Below w9.heap.size w9 wr ∧ findF us (forG L) = findF us (nodesF (goodR 0 0 L).length 0 (outR 0 ((goodR 0 0 L).drop i)))) (fun j _ => (goodR 0 0 L).length - (intOf j).toNat)
    case atStart => exact ⟨0, rfl, Nat.zero_le _, Below.refl _ _, HFS.out⟩
    case round =>
      clear HFS
      obtain ⟨i, rfl, hi, hbr, hfe⟩ := hrel
      obtain ⟨wa, rfl⟩ : ∃ x, x = wr := ⟨wr, rfl⟩
      have HFE := hide hfe
      have HBR0 := hide hbr
      clear hfe hbr
      rcases Nat.lt_or_ge i (goodR 0 0 L).length with hlt | hge
      · obtain ⟨r, hr⟩ : ∃ r, (goodR 0 0 L)[i]? = some r := ⟨(goodR 0 0 L)[i], List.getElem?_eq_getElem hlt⟩
        have HW := hide (HW9.out.below HBR0.out)
        obtain ⟨b1, o1, rfl⟩ := src_spot (own_src HW.out.l.own) (by omega) (by decide)
        obtain ⟨vw, vp, g0, g1, g2, g3, hvw, hvp⟩ := HW.out.l.rw'.at hr
        obtain ⟨Aw, cw, rfl, hws, hwB⟩ := hvw
        have sx := src_cells (own_src HW.out.l.own)
        have x0 := sx _ _ g0
        have x1 := sx _ _ g1
        have x3 := sx _ _ g3
        rw [← Nat.add_assoc] at x1 x3
        have d1 : decide (i < (goodR 0 0 L).length) = true := decide_eq_true hlt
        have d1' : decide ((i : Int) < ((goodR 0 0 L).length : Int)) = true := decide_eq_true (by omega)
        have d2 : ((i : Int) < ((goodR 0 0 L).length : Int)) := by omega
        have h8 := (HFL.out.ws r (List.mem_of_getElem? hr)).1
        have HSM := hide (lsame_any r.ws us Aw Q cw q wa hws HW.out.u (by omega) (by omega))
        have HLT := hide hlt
        have HR := hide hr
        clear sx g0 g1 g2 g3 hvp hws hwB hlt hr
        by_cases hd : r.deep = 0
        · have e1 : (r.deep != 0) = false := by rw [hd]; rfl
          have e1' : ((r.deep : Int) != 0) = false := by rw [hd]; rfl
          have HFF := hide (HFE.out.trans (find_flat HR.out hd))
          have HD := hide hd
          clear hd
          cases hop : r.op with
          | false =>
            have HNX := hide (show findF us (forG L) = findF us (nodesF (goodR 0 0 L).length 0 (outR 0 ((goodR 0 0 L).drop (i + 1)))) from by rw [HFF.out, if_neg (by rintro ⟨h, _⟩; rw [hop] at h; cases h)])
            have HBR := hide HBR0.out
            rw [hop] at x3
            clear hop
            go_wp2_with fail
            go_roundw
            case rel => exact ⟨i + 1, by go_num, HLT.out, HBR.out, HNX.out⟩
            case measure => have := HLT.out; simp [intOf]; omega
          | true =>
            rw [hop] at x3
            by_cases hwu : r.ws = us
            · rw [decide_eq_true hwu] at HSM
              exfalso
              have h1 := HFF.out
              rw [if_pos ⟨hop, hwu⟩, HFI.out] at h1
              cases h1
            · rw [decide_eq_false hwu] at HSM
              have HNX := hide (show findF us (forG L) = findF us (nodesF (goodR 0 0 L).length 0 (outR 0 ((goodR 0 0 L).drop (i + 1)))) from by rw [HFF.out, if_neg (fun h => hwu h.2)])
              clear hop hwu
              go_wp2_with fail
              refine HSM.out.mono ?_
              rintro e wb ⟨rfl, hbb⟩
              have HBR := hide (below_lo HBR0.out hbb HBR0.out.size)
              clear hbb HSM
              go_wp2_with fail
              go_roundw
              case rel => exact ⟨i + 1, by go_num, HLT.out, HBR.out, HNX.out⟩
              case measure => have := HLT.out; simp [intOf]; omega
        · have e1 : (r.deep != 0) = true := bne_iff_ne.2 hd
          have e1' : ((r.deep : Int) != 0) = true := bne_iff_ne.2 (by omega)
          have HNX := hide (HFE.out.trans (find_deep HR.out hd))
          have HBR := hide HBR0.out
          clear hd
          go_wp2_with fail
          go_roundw
          case rel => exact ⟨i + 1, by go_num, HLT.out, HBR.out, HNX.out⟩
          case measure => have := HLT.out; simp [intOf]; omega
      · have d1 : decide (i < (goodR 0 0 L).length) = false := decide_eq_false (by omega)
        have d1' : decide ((i : Int) < ((goodR 0 0 L).length : Int)) = false := decide_eq_false (by omega)
        clear hge hi
        have HAW := hide (awake_any wa m (cell_lo (below_lo HB9.out HBR0.out HB9.out.size) (a := ⟨0, 0, none⟩) h0 HM.out))
        go_wp2_with fail
        refine HAW.out.mono ?_
        rintro e wz ⟨rfl, hbz⟩
        have HBZ := hide (below_lo (below_lo HB9.out HBR0.out HB9.out.size) hbz (Nat.le_trans HB9.out.size HBR0.out.size))
        clear hbz HAW
        go_wp2_with fail
        go_ret
        exact ⟨rfl, HBZ.out⟩
  | some K =>
    rw [hfi] at hfd
    obtain ⟨vk, zs, BK, rfl, hlk⟩ := hfd
    obtain ⟨Ak, ck, rfl⟩ := own_slice hlk.own
    have HLK := hide hlk
    have HFI := hide hfi
    clear hfi hlk
    go_wp2_with fail
    go_loopw [15] (fun j wr => ∃ i : Nat, j = .int .i64 i ∧ i ≤ (goodR 0 0 L).length ∧ Below w9.heap.size w9 wr ∧ findF us (forG L) = findF us (nodesF (goodR 0 0 L).length 0 (outR 0 ((goodR 0 0 L).drop i)))) (fun j _ => (goodR 0 0 L).length - (intOf j).toNat)
    case atStart => exact ⟨0, rfl, Nat.zero_le _, Below.refl _ _, HFS.out⟩
    case round =>
      clear HFS
      obtain ⟨i, rfl, hi, hbr, hfe⟩ := hrel
      obtain ⟨wa, rfl⟩ : ∃ x, x = wr := ⟨wr, rfl⟩
      have HFE := hide hfe
      have HBR0 := hide hbr
      clear hfe hbr
      rcases Nat.lt_or_ge i (goodR 0 0 L).length with hlt | hge
      · obtain ⟨r, hr⟩ : ∃ r, (goodR 0 0 L)[i]? = some r := ⟨(goodR 0 0 L)[i], List.getElem?_eq_getElem hlt⟩
        have HW := hide (HW9.out.below HBR0.out)
        obtain ⟨b1, o1, rfl⟩ := src_spot (own_src HW.out.l.own) (by omega) (by decide)
        obtain ⟨vw, vp, g0, g1, g2, g3, hvw, hvp⟩ := HW.out.l.rw'.at hr
        obtain ⟨Aw, cw, rfl, hws, hwB⟩ := hvw
        have sx := src_cells (own_src HW.out.l.own)
        have x0 := sx _ _ g0
        have x1 := sx _ _ g1
        have x3 := sx _ _ g3
        rw [← Nat.add_assoc] at x1 x3
        have d1 : decide (i < (goodR 0 0 L).length) = true := decide_eq_true hlt
        have d1' : decide ((i : Int) < ((goodR 0 0 L).length : Int)) = true := decide_eq_true (by omega)
        have d2 : ((i : Int) < ((goodR 0 0 L).length : Int)) := by omega
        have h8 := (HFL.out.ws r (List.mem_of_getElem? hr)).1
        have HSM := hide (lsame_any r.ws us Aw Q cw q wa hws HW.out.u (by omega) (by omega))
        have HLT := hide hlt
        have HR := hide hr
        clear sx g0 g1 g2 g3 hvp hws hwB hlt hr
        by_cases hd : r.deep = 0
        · have e1 : (r.deep != 0) = false := by rw [hd]; rfl
          have e1' : ((r.deep : Int) != 0) = false := by rw [hd]; rfl
          have HFF := hide (HFE.out.trans (find_flat HR.out hd))
          have HD := hide hd
          clear hd
          cases hop : r.op with
          | false =>
            have HNX := hide (show findF us (forG L) = findF us (nodesF (goodR 0 0 L).length 0 (outR 0 ((goodR 0 0 L).drop (i + 1)))) from by rw [HFF.out, if_neg (by rintro ⟨h, _⟩; rw [hop] at h; cases h)])
            have HBR := hide HBR0.out
            rw [hop] at x3
            clear hop
            go_wp2_with fail
            go_roundw
            case rel => exact ⟨i + 1, by go_num, HLT.out, HBR.out, HNX.out⟩
            case measure => have := HLT.out; simp [intOf]; omega
          | true =>
            rw [hop] at x3
            by_cases hwu : r.ws = us
            · rw [decide_eq_true hwu] at HSM
              have HKR := hide (show rowsF 1 K = inR 0 ((goodR 0 0 L).drop (i + 1)) from by
                have h1 := HFF.out
                rw [if_pos ⟨hop, hwu⟩, HFI.out] at h1
                injection h1 with h1
                rw [h1]
                exact find_kids HOL.out HR.out HD.out hop)
              clear hop hwu HFF HFE
              go_wp2_with fail
              refine HSM.out.mono ?_
              rintro e wb ⟨rfl, hbb⟩
              have HBR := hide (below_lo HBR0.out hbb HBR0.out.size)
              have HWB := hide (HW.out.below hbb)
              clear hbb HSM x0 x1 x3 HW
              go_upto_block 2 with fail
              go_cut [16] (fun kv wx => ∃ k : Nat, kv = .int .i64 k ∧ wx = wb ∧ i + 1 ≤ k ∧ k ≤ (goodR 0 0 L).length ∧ inR 0 ((goodR 0 0 L).drop (i + 1)) = ((goodR 0 0 L).drop (i + 1)).take (k - (i + 1)))
              case first =>
                clear d1 d1'
                go_wp2_with fail
                go_loopw [16] (fun j wx => ∃ k : Nat, j = .int .i64 k ∧ wx = wb ∧ i + 1 ≤ k ∧ k ≤ (goodR 0 0 L).length ∧ inR 0 ((goodR 0 0 L).drop (i + 1)) = ((goodR 0 0 L).drop (i + 1)).take (k - (i + 1)) ++ inR 0 ((goodR 0 0 L).drop k)) (fun j _ => (goodR 0 0 L).length - (intOf j).toNat)
                case atStart => exact ⟨i + 1, by go_num, rfl, Nat.le_refl _, HLT.out, by simp⟩
                case round =>
                  obtain ⟨k, rfl, hwq, hik, hkl, hin⟩ := hrel
                  subst wr
                  have HIN := hide hin
                  clear hin
                  rcases Nat.lt_or_ge k (goodR 0 0 L).length with hlk | hgk
                  · have z1 : decide (k < (goodR 0 0 L).length) = true := decide_eq_true hlk
                    have z1' : decide ((k : Int) < ((goodR 0 0 L).length : Int)) = true := decide_eq_true (by omega)
                    have z2 : ((k : Int) < ((goodR 0 0 L).length : Int)) := by omega
                    obtain ⟨p, hp⟩ : ∃ p, (goodR 0 0 L)[k]? = some p := ⟨(goodR 0 0 L)[k], List.getElem?_eq_getElem hlk⟩
                    obtain ⟨_, _, g0, -, -, -, -, -⟩ := HWB.out.l.rw'.at hp
                    have y0 := src_cells (own_src HWB.out.l.own) _ _ g0
                    have HDQ := hide (drop_at hp)
                    have HQK := hide (show ((goodR 0 0 L).drop (i + 1))[k - (i + 1)]? = some p from by rw [List.getElem?_drop]; rw [show i + 1 + (k - (i + 1)) = k by omega]; exact hp)
                    have HLK := hide hlk
                    clear hp g0 hlk
                    by_cases hqd : 0 < p.deep
                    · have y1 : decide (0 < p.deep) = true := decide_eq_true hqd
                      have y1' : decide ((0 : Int) < (p.deep : Int)) = true := decide_eq_true (by omega)
                      have HQD := hide hqd
                      clear hqd
                      go_wp2_with fail
                      go_roundw
                      case rel =>
                        refine ⟨k + 1, by go_num, by first | rfl | trivial, by omega, HLK.out, ?_⟩
                        rw [HIN.out, HDQ.out, inR_cons, if_pos HQD.out, show k + 1 - (i + 1) = (k - (i + 1)) + 1 by omega, List.take_add_one, HQK.out]
                        simp
                      case measure => have := HLK.out; simp [intOf]; omega
                    · have y1 : decide (0 < p.deep) = false := decide_eq_false hqd
                      have y1' : decide ((0 : Int) < (p.deep : Int)) = false := decide_eq_false (by omega)
                      have HQD := hide hqd
                      clear hqd
                      go_wp2_with fail
                      go_meet
                      case rel => exact ⟨k, rfl, by first | rfl | trivial, hik, hkl, by rw [HIN.out, HDQ.out, inR_cons, if_neg HQD.out]; simp⟩
                  · have z1 : decide (k < (goodR 0 0 L).length) = false := decide_eq_false (by omega)
                    have z1' : decide ((k : Int) < ((goodR 0 0 L).length : Int)) = false := decide_eq_false (by omega)
                    have HNIL := hide (show (goodR 0 0 L).drop k = [] from List.drop_eq_nil_of_le hgk)
                    clear hgk
                    go_wp2_with fail
                    go_meet
                    case rel => exact ⟨k, rfl, by first | rfl | trivial, hik, hkl, by rw [HIN.out, HNIL.out]; simp [inR]⟩
              case rest =>
                obtain ⟨k, rfl, hwc, hik, hkl, hin⟩ := hcut
                subst wc
                have HIN := hide hin
                have hcap := own_caps HWB.out.l.own
                have s1 : ((i : Int) + 1 ≤ (k : Int)) := by omega
                have s2 : ((k : Int) ≤ (c1 : Int)) := by have := hcap.1; omega
                have s3 : ((0 : Int) ≤ (i : Int) + 1) := by omega
                clear hin d1 d1' d2
                by_cases hcne : c1 = i + 1
                · subst hcne
                  go_upto_region 15 with fail
                  refine wp_region_tree (fun _ => True) (fun k => ([] : List Nat).contains k) (.take [0, 1, 2, 3, 5, 6, 7, 8, 9] (.step 4 (.step 10 (.take [11, 12] .done)))) (by kernel_rfl) (by kernel_rfl) (by kernel_rfl) (by kernel_rfl) (.take (.cons (.zero) (.cons (.succ (.zero)) (.cons (.succ (.succ (.zero))) (.cons (.succ (.succ (.succ (.zero)))) (.cons (.succ (.succ (.succ (.succ (.succ (.zero)))))) (.cons (.succ (.succ (.succ (.succ (.succ (.succ (.zero))))))) (.cons (.succ (.succ (.succ (.succ (.succ (.succ (.succ (.zero)))))))) (.cons (.succ (.succ (.succ (.succ (.succ (.succ (.succ (.succ (.zero))))))))) (.cons (.succ (.succ (.succ (.succ (.succ (.succ (.succ (.succ (.succ (.zero)))))))))) .nil))))))))) (.step (.succ (.succ (.succ (.succ (.zero))))) rfl (.step (.succ (.succ (.succ (.succ (.succ (.succ (.succ (.succ (.succ (.succ (.zero))))))))))) rfl (.take (.cons (.succ (.succ (.succ (.succ (.succ (.succ (.succ (.succ (.succ (.succ (.succ (.zero)))))))))))) (.cons (.succ (.succ (.succ (.succ (.succ (.succ (.succ (.succ (.succ (.succ (.succ (.succ (.zero))))))))))))) .nil)) .done)))) ?hQ ?hS ?_
                  case hQ => exact fun _ _ _ _ _ h => h
                  case hS => exact trivial
                  refine wpT_take ?_
                  repeat (first | go_big_quiet_step ((fail)) | quiet_step ((fail)))
                  refine wpQuiet_nil ?_
                  have HDR := hide (Below.refl wb.heap.size wb).drew
                  have hcc1 := hcap.1
                  have hcc2 := hcap.2.1
                  generalize wb.drew = x0 at *
                  have HWX := hide (HWB.out.below HDR.out)
                  have HKX := hide ((HLK.out.grow (grown_of_below HBR.out) (fun b e => by cases e)).grow (grown_of_below HDR.out) (fun b e => by cases e))
                  obtain ⟨hkg, hkd, hks, hkn, hkb⟩ := HKB.out K (i + 1) HKR.out
                  have HKBB := hide hkb
                  have hklen : (rowsF 1 K).length = k - (i + 1) := by rw [HKR.out]; exact inR_len HIN.out hkl
                  have HKLEN := hide hklen
                  have HRW := hide (rowsG_any K.nodes K rfl 1 Ak ck zs BK x0 (own_src HKX.out.own) HKX.out.fo (fun q hq => (HKX.out.hB q hq).2.1) (own_ltA HKX.out.own) (by omega) hkg hkd (by omega))
                  have HIB := hide (show Below w.heap.size w x0 from below_lo (below_lo HB9.out HBR.out HB9.out.size) HDR.out (Nat.le_trans HB9.out.size HBR.out.size))
                  have hs9b := HBR.out.size
                  have hsbx := HDR.out.size
                  clear hkg hkd hkb hklen hcap
                  refine stepT_walk (by rfl) ?_
                  intro K1 hK1
                  go_wp2_with fail
                  refine HRW.out.mono ?_
                  rintro e w10 ⟨hb10, v10, y10, B10, rfl, h10, -⟩
                  obtain ⟨A10, c10, rfl⟩ := own_slice h10.own
                  have HB10 := hide (below_lo HIB.out hb10 HIB.out.size)
                  have HW10 := hide (HWX.out.below hb10)
                  have HK10 := hide (HKX.out.grow (grown_of_below hb10) (fun b e => by cases e))
                  have hs10 := hb10.size
                  have HEX := hide (show Calls Try.prog 17 #[.slice A10 (rowsF 1 K).length c10, .slice (if (i + 1) = i + 1 then some ⟨b1, o1, none⟩ else some ⟨b1, o1 + (i + 1) * 4, none⟩) (k - (i + 1)) ((i + 1) - (i + 1))] w10 (fun e w' => e = .returned (.bool true) ∧ Below w10.heap.size w10 w') from by
                    have hsx := src_cells (own_src HW10.out.l.own)
                    have hrv := (HW10.out.l.rw'.drop (i + 1)).take (k - (i + 1))
                    rw [← HIN.out, ← HKR.out] at hrv
                    have h := Exact_eq (rowsF 1 K) A10 (if (i + 1) = i + 1 then some ⟨b1, o1, none⟩ else some ⟨b1, o1 + (i + 1) * 4, none⟩) c10 ((i + 1) - (i + 1)) y10 ((x1.drop ((i + 1) * 4)).take ((k - (i + 1)) * 4)) B10 D1 w10 (own_src h10.own) h10.rw' ⟨hrv.len, .inr (by
                      by_cases hc : (i + 1) = i + 1
                      · rw [if_pos hc]
                        refine ⟨_, rfl, fun j u hj => ?_⟩
                        have h1 := (List.getElem?_eq_some_iff.1 hj).1
                        rw [List.length_take] at h1
                        omega
                      · rw [if_neg hc]
                        refine ⟨_, rfl, fun j u hj => ?_⟩
                        rw [List.getElem?_take] at hj
                        split at hj
                        · rw [List.getElem?_drop] at hj
                          rw [Addr.add_lit, Nat.add_assoc]
                          exact hsx _ _ hj
                        · cases hj)⟩ hrv (by have := HKLEN.out; omega) HKBB.out
                    have e : (Value.slice (if (i + 1) = i + 1 then some ⟨b1, o1, none⟩ else some ⟨b1, o1 + (i + 1) * 4, none⟩) (rowsF 1 K).length ((i + 1) - (i + 1))) = .slice (if (i + 1) = i + 1 then some ⟨b1, o1, none⟩ else some ⟨b1, o1 + (i + 1) * 4, none⟩) (k - (i + 1)) ((i + 1) - (i + 1)) := by rw [HKLEN.out]
                    rw [e] at h
                    exact h)
                  have HEX2 := hide (show Calls Try.prog 17 #[.slice A10 (rowsF 1 K).length c10, .slice (some ⟨b1, o1, none⟩) (k - (i + 1)) 0] w10 (fun e w' => e = .returned (.bool true) ∧ Below w10.heap.size w10 w') from by
                    have h := HEX.out
                    rw [if_pos rfl, Nat.sub_self] at h
                    exact h)
                  clear HEX
                  clear hb10 h10 HRW HWX HKX
                  refine hK1.out _ _ (fun _ => pin_mem trivial) ?_
                  clear hK1
                  refine stepT_walk (by rfl) ?_
                  intro K1 hK1
                  go_wp2_with fail
                  with_reducible refine HEX2.out.mono ?_
                  rintro e w11 ⟨rfl, hb11⟩
                  have HB11 := hide (below_lo HB10.out hb11 HB10.out.size)
                  have HW11 := hide (HW10.out.below hb11)
                  have HK11 := hide (HK10.out.grow (grown_of_below hb11) (fun b e => by cases e))
                  have hs11 := hb11.size
                  clear hb11 HEX2 HW10 HK10
                  refine hK1.out _ _ (fun _ => pin_mem trivial) ?_
                  clear hK1
                  refine wpT_take ?_
                  repeat (first | go_big_quiet_step ((fail)) | quiet_step ((fail)))
                  refine wpQuiet_nil ?_
                  refine wpT_done ?_
                  have HOK := hide (show ∀ g, (Value.slice Ak K.len ck).ownBlock = some g → w8.heap.size ≤ g ∧ g < w9.heap.size from fun g e => HLK.out.own.lt g e)
                  have HLB := hide (show ∀ q, BK q → w8.heap.size ≤ q ∧ q < w9.heap.size from fun q hq => ⟨(HLK.out.hB q hq).1, (HLK.out.hB q hq).2.1⟩)
                  have HSP := hide (spoil_any (fun g => (w8.heap.size ≤ g ∧ g < w9.heap.size) ∨ w11.heap.size ≤ g) K.nodes K rfl (szF K) Ak ck zs w11 (own_base HK11.out.own (Nat.zero_le _)) (fun g e => .inl (HOK.out g e)) (fun g h => .inr h) ((HK11.out.fs.mono (fun q hq => .inl (HLB.out q hq))).sh (Nat.le_refl _)) (by omega))
                  go_wp2_with fail
                  refine HSP.out.mono ?_
                  rintro e w12 ⟨rfl, htm⟩
                  have hs12 := htm.size
                  have hsw8 := HB8.out.size
                  have HB12 := hide (HB11.out.trans (htm.below (B := w.heap.size) (fun g hg => by rcases hg with h | h <;> omega) HB11.out.size))
                  have HLA := hide (show ∀ q, B3 q → q < w8.heap.size from fun q hq => (HW8.out.a.hB q hq).2.1)
                  have HOA := hide (show ∀ g, (Value.slice A3 (forG L).len c3).ownBlock = some g → g < w8.heap.size from fun g e => (HW8.out.a.own.lt g e).2)
                  have HLD := hide (show ∀ q, D1 q → q < w8.heap.size from fun q hq => (HW8.out.l.hD q hq).1)
                  have HOD := hide (show ∀ g, (Value.slice (some ⟨b1, o1, none⟩) (goodR 0 0 L).length (i + 1)).ownBlock = some g → g < w8.heap.size from fun g e => (HW8.out.l.own.lt g e).2)
                  have HRB := hide (rowsG_any (forG L).nodes (forG L) rfl 0 A3 c3 y3 B3 w12 (own_src (htm.own HW11.out.a.own (fun g e => by have := HOA.out g e; omega))) (htm.fov HW11.out.a.fo (fun g hg => by have := HLA.out g hg; exact ⟨by omega, by omega⟩)) (fun q hq => by have := HLA.out q hq; omega) (fun a ha => by have := HOA.out a.block (by rw [ha]; rfl); omega) (by have := HFL.out.sz; omega) HFL.out.gd HFL.out.dp (by omega))
                  have HL12 := hide (And.intro (htm.own HW11.out.l.own (fun g e => by have := HOD.out g e; omega)) (htm.rwv HW11.out.l.rw' (fun g hg => by have := HLD.out g hg; exact ⟨by omega, by omega⟩)))
                  clear htm HW11 HK11 HSP
                  go_wp2_with fail
                  refine HRB.out.mono ?_
                  rintro e w13 ⟨hb13, v13, y13, B13, rfl, h13, -⟩
                  rw [HFL.out.rows] at h13
                  obtain ⟨A13, c13, rfl⟩ := own_slice h13.own
                  have HB13 := hide (below_lo HB12.out hb13 HB12.out.size)
                  have HEX := hide (Exact_eq (goodR 0 0 L) A13 (some ⟨b1, o1, none⟩) c13 (i + 1) y13 x1 B13 D1 w13 (own_src h13.own) h13.rw' (own_src (own_below HL12.out.1 hb13)) (HL12.out.2.keep (fun b hb => hb13.block b (by have := HLD.out b hb; omega))) (by omega) (fun r hr => by have := HFL.out.ws r hr; omega))
                  clear hb13 h13 HRB HL12
                  go_wp2_with fail
                  refine HEX.out.mono ?_
                  rintro e w14 ⟨rfl, hb14⟩
                  have HB14 := hide (below_lo HB13.out hb14 HB13.out.size)
                  have HAW := hide (awake_any w14 m (cell_lo HB14.out (a := ⟨0, 0, none⟩) h0 HM.out))
                  clear hb14 HEX
                  go_wp2_with fail
                  refine HAW.out.mono ?_
                  rintro e w15 ⟨rfl, hb15⟩
                  have HB15 := hide (below_lo HB14.out hb15 HB14.out.size)
                  clear hb15 HAW
                  go_wp2_with fail
                  go_ret
                  exact ⟨rfl, HB15.out⟩
                · skip
                  go_upto_region 15 with fail
                  refine wp_region_tree (fun _ => True) (fun k => ([] : List Nat).contains k) (.take [0, 1, 2, 3, 5, 6, 7, 8, 9] (.step 4 (.step 10 (.take [11, 12] .done)))) (by kernel_rfl) (by kernel_rfl) (by kernel_rfl) (by kernel_rfl) (.take (.cons (.zero) (.cons (.succ (.zero)) (.cons (.succ (.succ (.zero))) (.cons (.succ (.succ (.succ (.zero)))) (.cons (.succ (.succ (.succ (.succ (.succ (.zero)))))) (.cons (.succ (.succ (.succ (.succ (.succ (.succ (.zero))))))) (.cons (.succ (.succ (.succ (.succ (.succ (.succ (.succ (.zero)))))))) (.cons (.succ (.succ (.succ (.succ (.succ (.succ (.succ (.succ (.zero))))))))) (.cons (.succ (.succ (.succ (.succ (.succ (.succ (.succ (.succ (.succ (.zero)))))))))) .nil))))))))) (.step (.succ (.succ (.succ (.succ (.zero))))) rfl (.step (.succ (.succ (.succ (.succ (.succ (.succ (.succ (.succ (.succ (.succ (.zero))))))))))) rfl (.take (.cons (.succ (.succ (.succ (.succ (.succ (.succ (.succ (.succ (.succ (.succ (.succ (.zero)))))))))))) (.cons (.succ (.succ (.succ (.succ (.succ (.succ (.succ (.succ (.succ (.succ (.succ (.succ (.zero))))))))))))) .nil)) .done)))) ?hQ ?hS ?_
                  case hQ => exact fun _ _ _ _ _ h => h
                  case hS => exact trivial
                  refine wpT_take ?_
                  repeat (first | go_big_quiet_step ((fail)) | quiet_step ((fail)))
                  refine wpQuiet_nil ?_
                  have HDR := hide (Below.refl wb.heap.size wb).drew
                  have hcc1 := hcap.1
                  have hcc2 := hcap.2.1
                  generalize wb.drew = x0 at *
                  have HWX := hide (HWB.out.below HDR.out)
                  have HKX := hide ((HLK.out.grow (grown_of_below HBR.out) (fun b e => by cases e)).grow (grown_of_below HDR.out) (fun b e => by cases e))
                  obtain ⟨hkg, hkd, hks, hkn, hkb⟩ := HKB.out K (i + 1) HKR.out
                  have HKBB := hide hkb
                  have hklen : (rowsF 1 K).length = k - (i + 1) := by rw [HKR.out]; exact inR_len HIN.out hkl
                  have HKLEN := hide hklen
                  have HRW := hide (rowsG_any K.nodes K rfl 1 Ak ck zs BK x0 (own_src HKX.out.own) HKX.out.fo (fun q hq => (HKX.out.hB q hq).2.1) (own_ltA HKX.out.own) (by omega) hkg hkd (by omega))
                  have HIB := hide (show Below w.heap.size w x0 from below_lo (below_lo HB9.out HBR.out HB9.out.size) HDR.out (Nat.le_trans HB9.out.size HBR.out.size))
                  have hs9b := HBR.out.size
                  have hsbx := HDR.out.size
                  clear hkg hkd hkb hklen hcap
                  refine stepT_walk (by rfl) ?_
                  intro K1 hK1
                  go_wp2_with fail
                  refine HRW.out.mono ?_
                  rintro e w10 ⟨hb10, v10, y10, B10, rfl, h10, -⟩
                  obtain ⟨A10, c10, rfl⟩ := own_slice h10.own
                  have HB10 := hide (below_lo HIB.out hb10 HIB.out.size)
                  have HW10 := hide (HWX.out.below hb10)
                  have HK10 := hide (HKX.out.grow (grown_of_below hb10) (fun b e => by cases e))
                  have hs10 := hb10.size
                  have HEX := hide (show Calls Try.prog 17 #[.slice A10 (rowsF 1 K).length c10, .slice (if c1 = i + 1 then some ⟨b1, o1, none⟩ else some ⟨b1, o1 + (i + 1) * 4, none⟩) (k - (i + 1)) (c1 - (i + 1))] w10 (fun e w' => e = .returned (.bool true) ∧ Below w10.heap.size w10 w') from by
                    have hsx := src_cells (own_src HW10.out.l.own)
                    have hrv := (HW10.out.l.rw'.drop (i + 1)).take (k - (i + 1))
                    rw [← HIN.out, ← HKR.out] at hrv
                    have h := Exact_eq (rowsF 1 K) A10 (if c1 = i + 1 then some ⟨b1, o1, none⟩ else some ⟨b1, o1 + (i + 1) * 4, none⟩) c10 (c1 - (i + 1)) y10 ((x1.drop ((i + 1) * 4)).take ((k - (i + 1)) * 4)) B10 D1 w10 (own_src h10.own) h10.rw' ⟨hrv.len, .inr (by
                      by_cases hc : c1 = i + 1
                      · rw [if_pos hc]
                        refine ⟨_, rfl, fun j u hj => ?_⟩
                        have h1 := (List.getElem?_eq_some_iff.1 hj).1
                        rw [List.length_take] at h1
                        omega
                      · rw [if_neg hc]
                        refine ⟨_, rfl, fun j u hj => ?_⟩
                        rw [List.getElem?_take] at hj
                        split at hj
                        · rw [List.getElem?_drop] at hj
                          rw [Addr.add_lit, Nat.add_assoc]
                          exact hsx _ _ hj
                        · cases hj)⟩ hrv (by have := HKLEN.out; omega) HKBB.out
                    have e : (Value.slice (if c1 = i + 1 then some ⟨b1, o1, none⟩ else some ⟨b1, o1 + (i + 1) * 4, none⟩) (rowsF 1 K).length (c1 - (i + 1))) = .slice (if c1 = i + 1 then some ⟨b1, o1, none⟩ else some ⟨b1, o1 + (i + 1) * 4, none⟩) (k - (i + 1)) (c1 - (i + 1)) := by rw [HKLEN.out]
                    rw [e] at h
                    exact h)
                  have HEX2 := hide (show Calls Try.prog 17 #[.slice A10 (rowsF 1 K).length c10, .slice (some ⟨b1, o1 + (i + 1) * 4, none⟩) (k - (i + 1)) (c1 - (i + 1))] w10 (fun e w' => e = .returned (.bool true) ∧ Below w10.heap.size w10 w') from by
                    have h := HEX.out
                    rw [if_neg hcne] at h
                    exact h)
                  clear HEX
                  clear hb10 h10 HRW HWX HKX
                  refine hK1.out _ _ (fun _ => pin_mem trivial) ?_
                  clear hK1
                  refine stepT_walk (by rfl) ?_
                  intro K1 hK1
                  go_wp2_with fail
                  with_reducible refine HEX2.out.mono ?_
                  rintro e w11 ⟨rfl, hb11⟩
                  have HB11 := hide (below_lo HB10.out hb11 HB10.out.size)
                  have HW11 := hide (HW10.out.below hb11)
                  have HK11 := hide (HK10.out.grow (grown_of_below hb11) (fun b e => by cases e))
                  have hs11 := hb11.size
                  clear hb11 HEX2 HW10 HK10
                  refine hK1.out _ _ (fun _ => pin_mem trivial) ?_
                  clear hK1
                  refine wpT_take ?_
                  repeat (first | go_big_quiet_step ((fail)) | quiet_step ((fail)))
                  refine wpQuiet_nil ?_
                  refine wpT_done ?_
                  have HOK := hide (show ∀ g, (Value.slice Ak K.len ck).ownBlock = some g → w8.heap.size ≤ g ∧ g < w9.heap.size from fun g e => HLK.out.own.lt g e)
                  have HLB := hide (show ∀ q, BK q → w8.heap.size ≤ q ∧ q < w9.heap.size from fun q hq => ⟨(HLK.out.hB q hq).1, (HLK.out.hB q hq).2.1⟩)
                  have HSP := hide (spoil_any (fun g => (w8.heap.size ≤ g ∧ g < w9.heap.size) ∨ w11.heap.size ≤ g) K.nodes K rfl (szF K) Ak ck zs w11 (own_base HK11.out.own (Nat.zero_le _)) (fun g e => .inl (HOK.out g e)) (fun g h => .inr h) ((HK11.out.fs.mono (fun q hq => .inl (HLB.out q hq))).sh (Nat.le_refl _)) (by omega))
                  go_wp2_with fail
                  refine HSP.out.mono ?_
                  rintro e w12 ⟨rfl, htm⟩
                  have hs12 := htm.size
                  have hsw8 := HB8.out.size
                  have HB12 := hide (HB11.out.trans (htm.below (B := w.heap.size) (fun g hg => by rcases hg with h | h <;> omega) HB11.out.size))
                  have HLA := hide (show ∀ q, B3 q → q < w8.heap.size from fun q hq => (HW8.out.a.hB q hq).2.1)
                  have HOA := hide (show ∀ g, (Value.slice A3 (forG L).len c3).ownBlock = some g → g < w8.heap.size from fun g e => (HW8.out.a.own.lt g e).2)
                  have HLD := hide (show ∀ q, D1 q → q < w8.heap.size from fun q hq => (HW8.out.l.hD q hq).1)
                  have HOD := hide (show ∀ g, (Value.slice (some ⟨b1, o1, none⟩) (goodR 0 0 L).length c1).ownBlock = some g → g < w8.heap.size from fun g e => (HW8.out.l.own.lt g e).2)
                  have HRB := hide (rowsG_any (forG L).nodes (forG L) rfl 0 A3 c3 y3 B3 w12 (own_src (htm.own HW11.out.a.own (fun g e => by have := HOA.out g e; omega))) (htm.fov HW11.out.a.fo (fun g hg => by have := HLA.out g hg; exact ⟨by omega, by omega⟩)) (fun q hq => by have := HLA.out q hq; omega) (fun a ha => by have := HOA.out a.block (by rw [ha]; rfl); omega) (by have := HFL.out.sz; omega) HFL.out.gd HFL.out.dp (by omega))
                  have HL12 := hide (And.intro (htm.own HW11.out.l.own (fun g e => by have := HOD.out g e; omega)) (htm.rwv HW11.out.l.rw' (fun g hg => by have := HLD.out g hg; exact ⟨by omega, by omega⟩)))
                  clear htm HW11 HK11 HSP
                  go_wp2_with fail
                  refine HRB.out.mono ?_
                  rintro e w13 ⟨hb13, v13, y13, B13, rfl, h13, -⟩
                  rw [HFL.out.rows] at h13
                  obtain ⟨A13, c13, rfl⟩ := own_slice h13.own
                  have HB13 := hide (below_lo HB12.out hb13 HB12.out.size)
                  have HEX := hide (Exact_eq (goodR 0 0 L) A13 (some ⟨b1, o1, none⟩) c13 c1 y13 x1 B13 D1 w13 (own_src h13.own) h13.rw' (own_src (own_below HL12.out.1 hb13)) (HL12.out.2.keep (fun b hb => hb13.block b (by have := HLD.out b hb; omega))) (by omega) (fun r hr => by have := HFL.out.ws r hr; omega))
                  clear hb13 h13 HRB HL12
                  go_wp2_with fail
                  refine HEX.out.mono ?_
                  rintro e w14 ⟨rfl, hb14⟩
                  have HB14 := hide (below_lo HB13.out hb14 HB13.out.size)
                  have HAW := hide (awake_any w14 m (cell_lo HB14.out (a := ⟨0, 0, none⟩) h0 HM.out))
                  clear hb14 HEX
                  go_wp2_with fail
                  refine HAW.out.mono ?_
                  rintro e w15 ⟨rfl, hb15⟩
                  have HB15 := hide (below_lo HB14.out hb15 HB14.out.size)
                  clear hb15 HAW
                  go_wp2_with fail
                  go_ret
                  exact ⟨rfl, HB15.out⟩

            · rw [decide_eq_false hwu] at HSM
              have HNX := hide (show findF us (forG L) = findF us (nodesF (goodR 0 0 L).length 0 (outR 0 ((goodR 0 0 L).drop (i + 1)))) from by rw [HFF.out, if_neg (fun h => hwu h.2)])
              clear hop hwu
              go_wp2_with fail
              refine HSM.out.mono ?_
              rintro e wb ⟨rfl, hbb⟩
              have HBR := hide (below_lo HBR0.out hbb HBR0.out.size)
              clear hbb HSM
              go_wp2_with fail
              go_roundw
              case rel => exact ⟨i + 1, by go_num, HLT.out, HBR.out, HNX.out⟩
              case measure => have := HLT.out; simp [intOf]; omega
        · have e1 : (r.deep != 0) = true := bne_iff_ne.2 hd
          have e1' : ((r.deep : Int) != 0) = true := bne_iff_ne.2 (by omega)
          have HNX := hide (HFE.out.trans (find_deep HR.out hd))
          have HBR := hide HBR0.out
          clear hd
          go_wp2_with fail
          go_roundw
          case rel => exact ⟨i + 1, by go_num, HLT.out, HBR.out, HNX.out⟩
          case measure => have := HLT.out; simp [intOf]; omega
      · have d1 : decide (i < (goodR 0 0 L).length) = false := decide_eq_false (by omega)
        have d1' : decide ((i : Int) < ((goodR 0 0 L).length : Int)) = false := decide_eq_false (by omega)
        exfalso
        have h1 := find_ok HFE.out hge
        rw [HFI.out] at h1
        cases h1
end Go.Proofs.Ytihmmmodimionaa.Tr
