/- What the claim leans on, part 8 of 16: UR TK US UT UU UV UW. -/
import Derived.Test.YtihmmmodimionaaWr01
import Derived.Test.YtihmmmodimionaaWr02
import Derived.Test.YtihmmmodimionaaWr03
import Derived.Test.YtihmmmodimionaaWr04
import Derived.Test.YtihmmmodimionaaWr05
import Derived.Test.YtihmmmodimionaaWr06
import Derived.Test.YtihmmmodimionaaWr07
/- Inherit, where one group of one container is applied: the walk. -/
namespace Go.Proofs.Ytihmmmodimionaa.Tr
open Go.RowKit Go.Proofs.Ytihmmmodimionaa Go.Proofs.Ytihmmmodimionaa.Lx

theorem CN.low {w0 wr x : World} {g cv n : Nat} {xs : List Value} {ws : Nat → List ByteArray} {ps : Nat → List (Int × Int)} {aw ap kv : Nat → Value} {K : Nat → Fo} {W : Nat → Prop} {row : Option Nat} (h : CN w0 wr g cv n xs ws ps aw ap kv K W) (hg : wr.grownBy x row) (hr : ∀ b, row = some b → b < w0.heap.size) : CN w0 x g cv n xs ws ps aw ap kv K W := by
  have hk : ∀ q, w0.heap.size ≤ q → q < wr.heap.size → x.heap[q]? = wr.heap[q]? := fun q h1 h2 => hg.block q h2 (fun e => by have := hr q e.symm; omega)
  refine ⟨own_grow h.own hg hr, h.x0, h.x1, h.x2, h.x3, fun e he => (h.sw e he).keep (fun q hq => hk q (h.wW q hq).1 (h.wW q hq).2.1), fun e he => (h.sp e he).keep (fun q hq => hk q (h.wW q hq).1 (h.wW q hq).2.1), fun q hq => ⟨(h.wW q hq).1, Nat.lt_of_lt_of_le (h.wW q hq).2.1 hg.size, (h.wW q hq).2.2⟩, h.kW, h.kk, fun e he => ?_⟩
  obtain ⟨y, B, hl, hB⟩ := h.lo e he
  exact ⟨y, B, hl.grow hg hr, hB⟩
/-- no container of the one word -/
def notG : Fo → Bool
  | .nil => true
  | .cons ws _ b _ R => (!b || !(ws.length == 1)) && notG R
theorem lo_share {w x : World} {ws : List ByteArray} {ps : List (Int × Int)} {vw vp : Value} {K : Fo} {A : Option Addr} {c : Nat} {B : Nat → Prop} (b : Bool) (hx : w.heap.size ≤ x.heap.size) (hf : FoV x B (.cons ws ps b K .nil) [vw, vp, .bool b, .slice A K.len c]) (hB : ∀ q, B q → w.heap.size ≤ q ∧ q < x.heap.size) :
    Lo w (x.alloc (NodeC vw vp b (.slice A K.len c))) (.slice (some ⟨x.heap.size, 0, none⟩) 1 1) (.cons ws ps b K .nil) [vw, vp, .bool b, .slice A K.len c] B := by
  have hbl := bel_one x (NodeC vw vp b (.slice A K.len c))
  refine ⟨⟨rfl, .inr ⟨x.heap.size, 1, _, rfl, hx, heap_new x _, Nat.le_refl _, by decide, rfl, rfl⟩⟩, hf.keep (fun q hq => hbl.block q (hB q hq).2), fun q hq => ⟨(hB q hq).1, by simp; have := (hB q hq).2; omega, fun e => ?_⟩⟩
  have h2 := (hB q hq).2
  have e' : x.heap.size = q := by injection e
  omega
structure RL (p0 : Nat) (w wM wr : World) (va : Value) (F : Fo) (i : Nat) (Fd R : Fo) (ys xs : List Value) (B BM : Nat → Prop) : Prop where
  bl : Below wM.heap.size wM wr
  lo : Lo w wr va Fd ys B
  ob : ∀ q, va.ownBlock = some q → wM.heap.size ≤ q
  bd : ∀ q, B q → BM q
  fo : FoV wM BM R (xs.drop ((i + 1) * 4))
  len : i + R.len = F.len
  dl : Fd.len = i
  ng : notG R = true
  sz : szF R ≤ szF F
  gd : Gd R
  eq : Fd.app R = F
  p : PosR wr p0 0 0
/-- what Inherit hands back -/
def InhR (R G : Fo) (w : World) (e : Ending) (w' : World) : Prop :=
  Below w.heap.size w w' ∧ ∃ w0 g cv n xs ws ps aw ap kv K D, e = .returned (.tuple #[.slice (some ⟨g, 0, none⟩) n cv, .agg #[.int .i64 0, .int .i64 0], .int .i64 0]) ∧ CN w0 w' g cv n xs ws ps aw ap kv (fun e => passL (K e) G) D ∧ foN ws ps K n = R
def restF (y gn : ByteArray) (ps0 : List (Int × Int)) (b0 : Bool) (K0 R : Fo) : Fo := .cons [y, gn] ps0 b0 K0 R
def textF (gw gn y : ByteArray) (psg psn ps0 : List (Int × Int)) (sw : List ByteArray) (sp : List (Int × Int)) (b0 : Bool) (K0 R G : Fo) : Fo :=
  .cons [gw] psg true (.cons [gn] psn true (.cons sw sp true G .nil) .nil) (restF y gn ps0 b0 K0 R)
set_option maxHeartbeats 8000000 in
set_option maxRecDepth 100000 in
theorem inherit_one (gw gn y : ByteArray) (psg psn ps0 : List (Int × Int)) (sw : List ByteArray) (sp : List (Int × Int)) (b0 : Bool) (K0 R G : Fo) (A : Option Addr) (c : Nat) (xs : List Value) (D : Nat → Prop) (w : World) (hs : Src w A (textF gw gn y psg psn ps0 sw sp b0 K0 R G).len c 4 xs) (hf : FoV w D (textF gw gn y psg psn ps0 sw sp b0 K0 R G) xs) (hD : ∀ q, D q → q < w.heap.size) (hA : ∀ a, A = some a → a.block < w.heap.size) (hsz : szF (textF gw gn y psg psn ps0 sw sp b0 K0 R G) ≤ 1099511627776) (hgd : Gd (textF gw gn y psg psn ps0 sw sp b0 K0 R G)) (hnd : ndF .nil (textF gw gn y psg psn ps0 sw sp b0 K0 R G) = true)
    (hgw : T gw = [103, 114, 111, 117, 112, 115]) (hng : notG (restF y gn ps0 b0 K0 R) = true) (hna : noAp (.cons sw sp true G .nil) = true) (hkn : knF gn (restF y gn ps0 b0 K0 R) = true) (hap : applB [y, gn] = true) (hbk : blks R = true) (hR : 1 ≤ R.len) (hlf : leafF G = true) (hcs : Lib.containsS sw ⟨#[60, 42, 62]⟩ = true)
    (hall : allP (fun ws K => fitL ws sw = true ∧ ws.length ≤ 1099511627776 ∧ szF K + szF G ≤ 1099511627776 ∧ Gd K) R) :
    Calls Try.prog 46 #[.slice A (textF gw gn y psg psn ps0 sw sp b0 K0 R G).len c] w (InhR R G w) := by
  obtain ⟨ni, nz0, nz, ns, nb⟩ := info_parts infoN
  have hb0 := bel_one w (PosC 0 0)
  have HMG := hide (merge_any _ (textF gw gn y psg psn ps0 sw sp b0 K0 R G) rfl A c xs D (w.alloc (PosC 0 0)) (hs.below hb0) (hf.keep (fun q hq => hb0.block q (hD q hq))) (fun q hq => Nat.lt_of_lt_of_le (hD q hq) hb0.size) (fun a ha => Nat.lt_of_lt_of_le (hA a ha) hb0.size) hsz hgd hnd)
  have HB0 := hide hb0
  have HP0 := hide (heap_new w (PosC 0 0))
  have HSZ := hide hsz
  have HGD := hide hgd
  have HC := hide (And.intro hng (And.intro hna (And.intro hkn (And.intro hap (And.intro hbk (And.intro hR (And.intro hlf (And.intro hcs hall))))))))
  have hgwl : (gw.toList == [103, 114, 111, 117, 112, 115]) = true := by rw [ByteArray.toList_eq, show gw.data.toList = T gw from rfl, hgw]; decide
  have hLen : (textF gw gn y psg psn ps0 sw sp b0 K0 R G).len = R.len + 1 + 1 := rfl
  have hRl : R.len ≤ 1099511627776 := by
    have h1 := len_sz (textF gw gn y psg psn ps0 sw sp b0 K0 R G)
    omega
  rw [hLen] at HMG ⊢
  clear hs hf hD hA hsz hgd hnd hng hna hkn hap hbk hR hlf hcs hall hgw hb0
  go_enter Try.func46, Try.ntmps46
  go_wp2_with fail
  refine HMG.out.mono ?_
  rintro e wM ⟨hbM, vM, yM, BM, rfl, hM⟩
  have hpM : PosR wM w.heap.size 0 0 := heapB hbM HP0.out
  have HBM := hide (below_wide HB0.out hbM)
  have HS1 := hide (show (w.alloc (PosC 0 0)).heap.size = w.heap.size + 1 from by simp)
  generalize w.alloc (PosC 0 0) = w1 at *
  obtain ⟨gM, cM, rfl, hgM1, hgM2⟩ := own_some hM.own (by rw [hLen]; omega)
  have hmf := hM.fo
  unfold textF at hmf
  obtain ⟨vwg, vpg, Akg, ckg, ysg, yM', e0, hvwg, hvpg, hksg, hkAg, hkFg, hRFg⟩ := hmf
  have hkg2 := hkFg
  obtain ⟨vwn, vpn, An, cn, ysn, ysn', e1, hvwn, hvpn, hksn, hkAn, hkFn, hRFn⟩ := hkFg
  obtain ⟨vws, vps, As, cs, yss, yss', e2, hvws, hvps, hkss, hkAs, hkFs, hRFs⟩ := hkFn
  obtain ⟨Awg, cwg, rfl, hwsg, hwBg⟩ := hvwg
  obtain ⟨Apg, cpg, rfl, _, _⟩ := hvpg
  obtain ⟨Awn, cwn, rfl, hwsn, hwBn⟩ := hvwn
  obtain ⟨Apn, cpn, rfl, _, _⟩ := hvpn
  obtain ⟨Aws, cws, rfl, hwss, hwBs⟩ := hvws
  have hvps0 := hvps
  obtain ⟨Aps, cps, rfl, _, _⟩ := hvps
  obtain ⟨kb, ko, rfl⟩ := src_spot hksg (by simp [Fo.len]) (by decide)
  obtain ⟨ab, ao, rfl⟩ := src_spot hksn (by simp [Fo.len]) (by decide)
  obtain ⟨qb, qo, rfl⟩ := src_spot hwsg (by simp) (Nat.le_refl _)
  have BL := hM.hB
  have hqc := src_cells hwsg 0 (.string gw) rfl
  rw [Nat.add_zero] at hqc
  have HCM := hide (show ∀ (j : Nat) (u : Value), yM[j]? = some u → wM.cell? ⟨gM, j, none⟩ = some u from fun j u hj => by
    have := own_cells hM.own j u hj
    rwa [show (⟨gM, 0, none⟩ : Addr).add j = ⟨gM, j, none⟩ by simp [Addr.add, eq_comm]] at this)
  have c0 := HCM.out 0 (.slice (some ⟨qb, qo, none⟩) 1 cwg) (by rw [e0]; rfl)
  have c1 := HCM.out 1 (.slice Apg psg.length cpg) (by rw [e0]; rfl)
  have c2 := HCM.out 2 (.bool true) (by rw [e0]; rfl)
  have c3 := HCM.out 3 (.slice (some ⟨kb, ko, none⟩) 1 ckg) (by rw [e0]; rfl)
  have HRF := hide (show FoV wM BM (restF y gn ps0 b0 K0 R) (yM.drop 4) from by rw [e0]; exact hRFg)
  have HBL := hide BL
  have HWM := hide hM
  have HLN := hide hLen
  have HPM := hide hpM
  have HSM := hide hbM.size
  have HBW1 := hide hbM
  clear hM hpM hbM
  rw [hLen]
  have d1 : decide (0 < R.len + 1 + 1) = true := decide_eq_true (by omega)
  have d1' : decide ((0 : Int) < (R.len : Int) + 1 + 1) = true := decide_eq_true (by omega)
  have d2 : ((0 : Int) < (R.len : Int) + 1 + 1) := by omega
  clear hLen HMG
  go_wp2_with fail
  -- LOOP
  go_loopw [5, 6, 17] (fun va vg j wr => (j = .int .i64 0 ∧ va = .slice none 0 0 ∧ vg = .slice none 0 0 ∧ wr = wM) ∨ (∃ (i : Nat) (Fd R' : Fo) (ys : List Value) (B : Nat → Prop), j = .int .i64 ((i : Int) + 1) ∧ vg = .slice (some ⟨kb, ko, none⟩) 1 ckg ∧ RL w.heap.size w1 wM wr va (restF y gn ps0 b0 K0 R) i Fd R' ys yM B BM)) (fun _ _ j _ => R.len + 1 + 1 - (intOf j).toNat)
  case atStart => exact .inl ⟨rfl, rfl, rfl, rfl⟩
  case round =>
    rcases hrel with ⟨rfl, rfl, rfl, hw⟩ | ⟨i, Fd, R', ys, B, rfl, rfl, hX⟩
    · subst hw
      have hb1 := bel_one wr (NodeC (.slice (some ⟨qb, qo, none⟩) 1 cwg) (.slice Apg psg.length cpg) true (.slice (some ⟨kb, ko, none⟩) 1 ckg))
      have hq2 := cellB hb1 hqc
      have HF := hide (show RL w.heap.size w1 wr (wr.alloc (NodeC (.slice (some ⟨qb, qo, none⟩) 1 cwg) (.slice Apg psg.length cpg) true (.slice (some ⟨kb, ko, none⟩) 1 ckg))) (.slice none 0 0) (restF y gn ps0 b0 K0 R) 0 .nil (restF y gn ps0 b0 K0 R) [] yM (fun _ => False) BM from ⟨hb1, ((lo_start w1).grow (grown_of_below (below_wide (Below.refl _ _) (show Below w1.heap.size w1 wr from HBW1.out))) (fun b e => by cases e)).grow (grown_of_below hb1) (fun b e => by cases e), fun q e => (by cases e), fun q hq => hq.elim, HRF.out, by simp, rfl, HC.out.1, Nat.le_refl _, HGD.out.2.2.2, rfl, heapB hb1 HPM.out⟩)
      clear hb1
      go_wp2_with fail
      go_roundw
      case rel => exact .inr ⟨0, .nil, _, _, _, by go_num, rfl, HF.out⟩
      case measure => simp [intOf]
    · obtain ⟨Av, cv, rfl⟩ := own_slice hX.lo.own
      have HDL := hide hX.dl
      have HX := hide hX
      clear hX
      cases R' with
      | nil =>
        have hi : i = R.len + 1 := by have := HX.out.len; simpa [Fo.len, restF] using this
        have d1 : decide (i + 1 < R.len + 1 + 1) = false := decide_eq_false (by omega)
        have d1' : decide ((i : Int) + 1 < (R.len : Int) + 1 + 1) = false := decide_eq_false (by omega)
        have d3 : decide (i < R.len + 1) = false := decide_eq_false (by omega)
        have d3' : decide ((i : Int) < (R.len : Int) + 1) = false := decide_eq_false (by omega)
        have he : Fd = restF y gn ps0 b0 K0 R := by have := HX.out.eq; rwa [Fo.app_nil] at this
        have hfl : Fd.len = R.len + 1 := by rw [he]; rfl
        have hlo := HX.out.lo
        rw [hfl, he] at hlo
        have HL := hide hlo
        rw [hfl]
        clear hi he hfl hlo d1 d2 d1'
        have hbl := HX.out.bl
        have hkbM := (HBL.out kb (hkAg _ rfl)).2.1
        have hBMw : ∀ q, BM q → q < wr.heap.size := fun q hq => Nat.lt_of_lt_of_le (HBL.out q hq).2.1 hbl.size
        have gk := fun (j : Nat) (u : Value) (h : ysg[j]? = some u) => cell_lo (a := ⟨kb, ko + j, none⟩) hbl hkbM (src_cells hksg j u h)
        have hszT : szF (textF gw gn y psg psn ps0 sw sp b0 K0 R G) = [gw].length + psg.length + 1 + ([gn].length + psn.length + 1 + (sw.length + sp.length + 1 + szF G + 0) + 0) + szF (restF y gn ps0 b0 K0 R) := rfl
        have hszK : szF (.cons sw sp true G .nil) = sw.length + sp.length + 1 + szF G + 0 := rfl
        have hszX : szF (restF y gn ps0 b0 K0 R) = [y, gn].length + ps0.length + 1 + szF K0 + szF R := rfl
        have HBK := hide (book_one gn psn (.cons sw sp true G .nil) kb ko ckg Awn Apn (some ⟨ab, ao, none⟩) cwn cpn cn ysn BM wr (Nat.lt_of_lt_of_le hkbM hbl.size)
          (gk 0 _ (by rw [e1]; rfl)) (gk 1 _ (by rw [e1]; rfl)) (gk 2 _ (by rw [e1]; rfl)) (gk 3 _ (by rw [e1]; rfl)) (hwsn.below hbl) (fun a ha => hBMw _ (hwBn a ha).1) (hksn.below hbl) (FoV.keep (F := .cons sw sp true G .nil) ⟨_, _, As, cs, yss, yss', e2, ⟨Aws, cws, rfl, hwss, hwBs⟩, hvps0, hkss, hkAs, hkFs, hRFs⟩ (fun q hq => hbl.block q (HBL.out q hq).2.1)) hBMw (fun a ha => hBMw _ (hkAn a ha)) (by have := HSZ.out; omega) HGD.out.2.2.1.2.2.1 HC.out.2.1)
        have hlr := HL.out
        have HKNF := hide (fun (x : World) (hx : Below wr.heap.size wr x) (hm : Mp1 (wr.heap.size + 1) gn (.slice (some ⟨ab, ao, none⟩) 1 cn) x) => known_any (wr.heap.size + 1) gn (.slice (some ⟨ab, ao, none⟩) 1 cn) _ (restF y gn ps0 b0 K0 R) rfl Av cv ys B x ((own_src hlr.own).below hx) (hlr.fo.keep (fun q hq => hx.block q (hlr.hB q hq).2.1)) (fun q hq => Nat.lt_of_lt_of_le (hlr.hB q hq).2.1 hx.size) (fun a ha => Nat.lt_of_lt_of_le (hlr.own.lt a.block (by rw [ha]; rfl)).2 hx.size) (by have := HSZ.out; omega) HGD.out.2.2.2 HC.out.2.2.1 hm)
        have hab2 := (HBL.out ab (hkAn _ rfl)).2.1
        have gn2 := fun (j : Nat) (u : Value) (h : ysn[j]? = some u) => cell_lo (a := ⟨ab, ao + j, none⟩) hbl hab2 (src_cells hksn j u h)
        have HIN := hide (fun (x : World) (hx : Below wr.heap.size wr x) (hm : Mp1 (wr.heap.size + 1) gn (.slice (some ⟨ab, ao, none⟩) 1 cn) x) => inherited_top w1 x y gn ps0 b0 K0 R G Av cv ys B BM (wr.heap.size + 1) ab ao cn sw sp Aws Aps As cws cps cs yss (Nat.le_trans (Nat.le_trans HSM.out hbl.size) hx.size) ((own_src hlr.own).below hx) (hlr.fo.keep (fun q hq => hx.block q (hlr.hB q hq).2.1)) (fun q hq => ⟨(hlr.hB q hq).1, Nat.lt_of_lt_of_le (hlr.hB q hq).2.1 hx.size⟩) (fun a ha => Nat.lt_of_lt_of_le (hlr.own.lt a.block (by rw [ha]; rfl)).2 hx.size) HC.out.2.2.2.1 HC.out.2.2.2.2.1 HGD.out.2.2.2.2.2.2 (by have := HSZ.out; omega) HC.out.2.2.2.2.2.1 hm
          (Nat.lt_of_lt_of_le (Nat.lt_of_lt_of_le hab2 hbl.size) hx.size) (cell_lo (a := ⟨ab, ao, none⟩) hx (Nat.lt_of_lt_of_le hab2 hbl.size) (gn2 0 _ (by rw [e2]; rfl))) (cell_lo (a := ⟨ab, ao + 1, none⟩) hx (Nat.lt_of_lt_of_le hab2 hbl.size) (gn2 1 _ (by rw [e2]; rfl))) (cell_lo (a := ⟨ab, ao + 2, none⟩) hx (Nat.lt_of_lt_of_le hab2 hbl.size) (gn2 2 _ (by rw [e2]; rfl))) (cell_lo (a := ⟨ab, ao + 3, none⟩) hx (Nat.lt_of_lt_of_le hab2 hbl.size) (gn2 3 _ (by rw [e2]; rfl)))
          (fun q hq => Nat.lt_of_lt_of_le (hBMw q hq) hx.size) ((hwss.below hbl).below hx) (fun a ha => (hwBs a ha).1) ((hkss.below hbl).below hx) hkAs ((hkFs.keep (fun q hq => hbl.block q (HBL.out q hq).2.1)).keep (fun q hq => hx.block q (hBMw q hq))) HC.out.2.2.2.2.2.2.1 HGD.out.2.2.1.2.2.1.2.2.1 HGD.out.2.2.1.2.2.1.1 (by have := HSZ.out; omega) HC.out.2.2.2.2.2.2.2.1 HC.out.2.2.2.2.2.2.2.2)
        have HPW := hide HX.out.p
        have HBB := hide (below_two HBM.out (hbl.mono (Nat.le_trans (by have := HS1.out; omega) HSM.out)))
        clear hszT hszK hszX hlr gn2 gk hBMw hbl hab2 hkbM
        go_wp2_with fail
        refine HBK.out.mono ?_
        rintro e wB ⟨rfl, hbB, hmB⟩
        have hbB1 := below_lo hbB (bel_one wB (PosC 0 0)) hbB.size
        have HKX := hide (HKNF.out _ hbB1 (hmB.below (bel_one wB _)))
        rw [show (restF y gn ps0 b0 K0 R).len = R.len + 1 from rfl] at HKX
        have HB1 := hide hbB1
        have HM1 := hide (hmB.below (bel_one wB (PosC 0 0)))
        clear hbB hmB hbB1 HKNF HBK
        go_wp2_with fail
        refine HKX.out.mono ?_
        generalize wB.alloc (PosC 0 0) = wC at *
        rintro e wK ⟨rfl, hbK⟩
        have hbK1 := below_lo (below_lo HB1.out hbK HB1.out.size) (bel_one wK (PosC 0 0)) (Nat.le_trans HB1.out.size hbK.size)
        have HIX := hide (HIN.out _ hbK1 ((HM1.out.below hbK).below (bel_one wK _)))
        have HB2 := hide hbK1
        clear hbK hbK1 HIN HKX
        go_wp2_with fail
        refine HIX.out.mono ?_
        generalize wK.alloc (PosC 0 0) = wL at *
        rintro e wI ⟨hbI, g, cv2, n, xs2, ws2, ps2, aw2, ap2, kv2, K2, rfl, hcn, heq⟩
        have hpI : PosR wI w.heap.size 0 0 := (hbI.block _ (by have := HS1.out; omega)).trans (heapB HB2.out HPW.out)
        have p0 := cell_heap (j := 0) hpI rfl
        have p1 := cell_heap (j := 1) hpI rfl
        have f0 := frozen_heap (j := 0) hpI
        have f1 := frozen_heap (j := 1) hpI
        have HCN := hide hcn
        have HEQ := hide heq
        have HBI := hide (below_two (below_lo HBB.out HB2.out HBB.out.size) (hbI.mono (by have := HS1.out; omega)))
        clear hbI hcn heq hpI HIX
        go_wp2_with fail
        refine bodyPost_ret (v := .tuple #[.slice (some ⟨g, 0, none⟩) n cv2, .agg #[.int .i64 0, .int .i64 0], .int .i64 0]) (by simp [results, Try.results46, go_sem, p0, p1]) rfl ?_
        have hst := only_set (only_set (only_refl w.heap.size wI) 0 (.int .i64 0)) 1 (.int .i64 0)
        exact ⟨(HBI.out.setCell (p := ⟨w.heap.size, 0, none⟩) (Nat.le_refl _) _).setCell (p := ⟨w.heap.size, 1, none⟩) (Nat.le_refl _) _, w1, g, cv2, n, xs2, ws2, ps2, aw2, ap2, kv2, K2, B, rfl, HCN.out.low hst (fun b e => by injection e with e; have := HS1.out; omega), HEQ.out⟩
      | cons ws ps blk K R2 =>
        have hlen : i + (R2.len + 1) = R.len + 1 := HX.out.len
        have d4 : decide (i + 1 < R.len + 1 + 1) = true := decide_eq_true (by omega)
        have d4' : decide ((i : Int) + 1 < (R.len : Int) + 1 + 1) = true := decide_eq_true (by omega)
        have d5 : decide (i < R.len + 1) = true := decide_eq_true (by omega)
        have d5' : decide ((i : Int) < (R.len : Int) + 1) = true := decide_eq_true (by omega)
        have d6 : ((i : Int) + 1 < (R.len : Int) + 1 + 1) := by omega
        have d7 : ((i : Int) < (R.len : Int) + 1) := by omega
        obtain ⟨vw, vp, Ak, ck, ks, g0, g1, g2, g3, hvw, hvp, hks, hkA, hkF, hRF⟩ := drop_fo HX.out.fo
        have k0 := cellB HX.out.bl (HCM.out _ _ g0)
        have k1 := cellB HX.out.bl (HCM.out _ _ g1)
        have k2 := cellB HX.out.bl (HCM.out _ _ g2)
        have k3 := cellB HX.out.bl (HCM.out _ _ g3)
        have hvw2 := hvw
        have hvp2 := hvp
        obtain ⟨Aw, cw, rfl, hws, hwB⟩ := hvw2
        obtain ⟨Ap, cp, rfl, hps, hpB⟩ := hvp2
        have hszR : szF (.cons ws ps blk K R2) = ws.length + ps.length + 1 + szF K + szF R2 := rfl
        have HSR := hide (show szF R2 ≤ szF (restF y gn ps0 b0 K0 R) from by have h1 := HX.out.sz; omega)
        have HGR := hide HX.out.gd.2.2.2
        have HRF2 := hide hRF
        have HLEN := hide hlen
        have hszT : szF (restF y gn ps0 b0 K0 R) ≤ szF (textF gw gn y psg psn ps0 sw sp b0 K0 R G) := by
          show _ ≤ _ + _ + 1 + _ + szF (restF y gn ps0 b0 K0 R)
          omega
        have hwl : ws.length ≤ 1099511627776 := by have h1 := HX.out.sz; have h2 := HSZ.out; omega
        have hkl : K.len ≤ 1099511627776 := by have h1 := HX.out.sz; have h2 := HSZ.out; have h3 := len_sz K; omega
        have hfdl : Fd.len ≤ 1099511627776 := by have := HDL.out; omega
        have hng := HX.out.ng
        rw [notG, Bool.and_eq_true] at hng
        have HNR := hide hng.2
        have hng1 := hng.1
        clear g0 g1 g2 g3 hszR hszT hws hwB hps hpB hlen hng d1 d1' d2 c0 c1 c2 c3
        cases blk with
        | false =>
          clear hng1
          have hb1 := bel_one wr (NodeC (.slice Aw ws.length cw) (.slice Ap ps.length cp) false (.slice Ak K.len ck))
          have HB1 := hide hb1
          have HBX := hide (show BX wr.heap.size (.slice Aw ws.length cw) (.slice Ap ps.length cp) false (.slice Ak K.len ck) (wr.alloc (NodeC (.slice Aw ws.length cw) (.slice Ap ps.length cp) false (.slice Ak K.len ck))) from ⟨heap_new wr _⟩)
          have n0 := cell_heap (j := 0) HBX.out.h rfl
          have n1 := cell_heap (j := 1) HBX.out.h rfl
          have n2 := cell_heap (j := 2) HBX.out.h rfl
          have n3 := cell_heap (j := 3) HBX.out.h rfl
          have HBW := hide (below_lo HX.out.bl hb1 HX.out.bl.size)
          have HL1 := hide (HX.out.lo.grow (World.grownBy_alloc wr (NodeC (.slice Aw ws.length cw) (.slice Ap ps.length cp) false (.slice Ak K.len ck)) none) (fun b e => by cases e))
          have HP1 := hide (heap_old (p := (NodeC (.slice Aw ws.length cw) (.slice Ap ps.length cp) false (.slice Ak K.len ck))) HX.out.p)
          have HS1x := hide (show (wr.alloc (NodeC (.slice Aw ws.length cw) (.slice Ap ps.length cp) false (.slice Ak K.len ck))).heap.size = wr.heap.size + 1 from by simp)
          have HFE := hide (show FoV (wr.alloc (NodeC (.slice Aw ws.length cw) (.slice Ap ps.length cp) false (.slice Ak K.len ck))) BM (.cons ws ps false K .nil) [.slice Aw ws.length cw, .slice Ap ps.length cp, .bool false, .slice Ak K.len ck] from
            ⟨_, _, Ak, ck, ks, [], rfl, hvw.keep (fun q hq => HBW.out.block q (HBL.out q hq).2.1), hvp.keep (fun q hq => HBW.out.block q (HBL.out q hq).2.1), src_keep hks (fun a ha => HBW.out.block _ (HBL.out _ (hkA a ha)).2.1), hkA, hkF.keep (fun q hq => HBW.out.block q (HBL.out q hq).2.1), rfl⟩)
          clear hb1 hvw hvp hks hkA hkF hRF
          go_wp2_with (at_builtin; go_must (refine wpList_append_own_at _ rfl (.tmp 38) (.tmp 40) 36 rfl w1.heap.size 44 ni _ 4 80 Try.underlying36 nz0 nz ns nb rfl (by decide) _ _ _ rfl (HL1.out.own.alloc _) ⟨wr.heap.size + 1, 0, none⟩ 1 1 [.slice Aw ws.length cw, .slice Ap ps.length cp, .bool false, .slice Ak K.len ck] rfl rfl ?rw ?ones ?c63 ?cby ?cbase ?_))
          case rw => exact row_at (heap_new2 wr (NodeC (.slice Aw ws.length cw) (.slice Ap ps.length cp) false (.slice Ak K.len ck)) (NodeC (.slice Aw ws.length cw) (.slice Ap ps.length cp) false (.slice Ak K.len ck)))
          case ones => simp [Value.oneCell']
          case c63 => unfold maxLen; omega
          case cby => omega
          case cbase => have h1 := HSM.out; have h2 := HX.out.bl.size; simp; omega
          intro v' w4 hown hgr _ hk2
          have hls := lo_share false (w := w1) (x := wr.alloc (NodeC (.slice Aw ws.length cw) (.slice Ap ps.length cp) false (.slice Ak K.len ck))) (by have h1 := HSM.out; have h2 := HX.out.bl.size; have h3 := HS1x.out; omega) HFE.out (fun q hq => ⟨(HBL.out q hq).1, by have h2 := (HBL.out q hq).2.1; have h3 := HX.out.bl.size; have h4 := HS1x.out; omega⟩)
          have hl2 := HL1.out.grow (World.grownBy_alloc (wr.alloc (NodeC (.slice Aw ws.length cw) (.slice Ap ps.length cp) false (.slice Ak K.len ck))) (NodeC (.slice Aw ws.length cw) (.slice Ap ps.length cp) false (.slice Ak K.len ck)) none) (fun b e => by cases e)
          rw [HS1x.out] at hls
          have hap := Lo.app2 hl2 hls (fun q hq e => by have h1 := HX.out.ob q e; have h2 := (HBL.out q hq).2.1; omega) hown hgr (by
            rw [World.size_alloc, HS1x.out]
            rcases hk2 with h | h
            · exact .inl h
            · exact .inr (by rw [h]))
          have hb2 := below_lo HBW.out (bel_one (wr.alloc (NodeC (.slice Aw ws.length cw) (.slice Ap ps.length cp) false (.slice Ak K.len ck))) (NodeC (.slice Aw ws.length cw) (.slice Ap ps.length cp) false (.slice Ak K.len ck))) HBW.out.size
          have HF := hide (show RL w.heap.size w1 wM w4 v' (restF y gn ps0 b0 K0 R) (i + 1) (Fd.app (.cons ws ps false K .nil)) R2 _ yM _ BM from ⟨hb2.grown hgr hb2.size (fun g e => HX.out.ob g e), hap, fun q e => by
              rcases hk2 with h | h
              · exact HX.out.ob q (by rw [← h]; exact e)
              · rw [h] at e
                injection e with e
                have h1 := HX.out.bl.size
                omega, fun q hq => by
              rcases hq with h | h
              · exact HX.out.bd q h
              · exact h, HRF2.out, (show i + 1 + R2.len = R.len + 1 from by have := HLEN.out; omega), by rw [Fo.len_app, HDL.out]; rfl, HNR.out, HSR.out, HGR.out, by rw [app_cons]; exact HX.out.eq, heap_grown (heap_old (p := (NodeC (.slice Aw ws.length cw) (.slice Ap ps.length cp) false (.slice Ak K.len ck))) HP1.out) hgr (fun e => by have h1 := HX.out.ob _ e; have h2 := HSM.out; have h3 := HS1.out; omega)⟩)
          clear hown hgr hk2 hap hls hl2 hb2
          go_wp2_with fail
          go_roundw
          case rel => exact .inr ⟨i + 1, _, R2, _, _, by go_num, rfl, HF.out⟩
          case measure => have := HLEN.out; simp [intOf]; omega
        | true =>
          have e1 : (ws.length == 1) = false := by simpa using hng1
          have e1' : ((ws.length : Int) == 1) = false := beq_if (by have := beq_eq_false_iff_ne.1 e1; omega)
          clear hng1
          have hb1 := bel_one wr (NodeC (.slice Aw ws.length cw) (.slice Ap ps.length cp) true (.slice Ak K.len ck))
          have HB1 := hide hb1
          have HBX := hide (show BX wr.heap.size (.slice Aw ws.length cw) (.slice Ap ps.length cp) true (.slice Ak K.len ck) (wr.alloc (NodeC (.slice Aw ws.length cw) (.slice Ap ps.length cp) true (.slice Ak K.len ck))) from ⟨heap_new wr _⟩)
          have n0 := cell_heap (j := 0) HBX.out.h rfl
          have n1 := cell_heap (j := 1) HBX.out.h rfl
          have n2 := cell_heap (j := 2) HBX.out.h rfl
          have n3 := cell_heap (j := 3) HBX.out.h rfl
          have HBW := hide (below_lo HX.out.bl hb1 HX.out.bl.size)
          have HL1 := hide (HX.out.lo.grow (World.grownBy_alloc wr (NodeC (.slice Aw ws.length cw) (.slice Ap ps.length cp) true (.slice Ak K.len ck)) none) (fun b e => by cases e))
          have HP1 := hide (heap_old (p := (NodeC (.slice Aw ws.length cw) (.slice Ap ps.length cp) true (.slice Ak K.len ck))) HX.out.p)
          have HS1x := hide (show (wr.alloc (NodeC (.slice Aw ws.length cw) (.slice Ap ps.length cp) true (.slice Ak K.len ck))).heap.size = wr.heap.size + 1 from by simp)
          have HFE := hide (show FoV (wr.alloc (NodeC (.slice Aw ws.length cw) (.slice Ap ps.length cp) true (.slice Ak K.len ck))) BM (.cons ws ps true K .nil) [.slice Aw ws.length cw, .slice Ap ps.length cp, .bool true, .slice Ak K.len ck] from
            ⟨_, _, Ak, ck, ks, [], rfl, hvw.keep (fun q hq => HBW.out.block q (HBL.out q hq).2.1), hvp.keep (fun q hq => HBW.out.block q (HBL.out q hq).2.1), src_keep hks (fun a ha => HBW.out.block _ (HBL.out _ (hkA a ha)).2.1), hkA, hkF.keep (fun q hq => HBW.out.block q (HBL.out q hq).2.1), rfl⟩)
          clear hb1 hvw hvp hks hkA hkF hRF
          go_wp2_with (at_builtin; go_must (refine wpList_append_own_at _ rfl (.tmp 38) (.tmp 40) 36 rfl w1.heap.size 44 ni _ 4 80 Try.underlying36 nz0 nz ns nb rfl (by decide) _ _ _ rfl (HL1.out.own.alloc _) ⟨wr.heap.size + 1, 0, none⟩ 1 1 [.slice Aw ws.length cw, .slice Ap ps.length cp, .bool true, .slice Ak K.len ck] rfl rfl ?rw ?ones ?c63 ?cby ?cbase ?_))
          case rw => exact row_at (heap_new2 wr (NodeC (.slice Aw ws.length cw) (.slice Ap ps.length cp) true (.slice Ak K.len ck)) (NodeC (.slice Aw ws.length cw) (.slice Ap ps.length cp) true (.slice Ak K.len ck)))
          case ones => simp [Value.oneCell']
          case c63 => unfold maxLen; omega
          case cby => omega
          case cbase => have h1 := HSM.out; have h2 := HX.out.bl.size; simp; omega
          intro v' w4 hown hgr _ hk2
          have hls := lo_share true (w := w1) (x := wr.alloc (NodeC (.slice Aw ws.length cw) (.slice Ap ps.length cp) true (.slice Ak K.len ck))) (by have h1 := HSM.out; have h2 := HX.out.bl.size; have h3 := HS1x.out; omega) HFE.out (fun q hq => ⟨(HBL.out q hq).1, by have h2 := (HBL.out q hq).2.1; have h3 := HX.out.bl.size; have h4 := HS1x.out; omega⟩)
          have hl2 := HL1.out.grow (World.grownBy_alloc (wr.alloc (NodeC (.slice Aw ws.length cw) (.slice Ap ps.length cp) true (.slice Ak K.len ck))) (NodeC (.slice Aw ws.length cw) (.slice Ap ps.length cp) true (.slice Ak K.len ck)) none) (fun b e => by cases e)
          rw [HS1x.out] at hls
          have hap := Lo.app2 hl2 hls (fun q hq e => by have h1 := HX.out.ob q e; have h2 := (HBL.out q hq).2.1; omega) hown hgr (by
            rw [World.size_alloc, HS1x.out]
            rcases hk2 with h | h
            · exact .inl h
            · exact .inr (by rw [h]))
          have hb2 := below_lo HBW.out (bel_one (wr.alloc (NodeC (.slice Aw ws.length cw) (.slice Ap ps.length cp) true (.slice Ak K.len ck))) (NodeC (.slice Aw ws.length cw) (.slice Ap ps.length cp) true (.slice Ak K.len ck))) HBW.out.size
          have HF := hide (show RL w.heap.size w1 wM w4 v' (restF y gn ps0 b0 K0 R) (i + 1) (Fd.app (.cons ws ps true K .nil)) R2 _ yM _ BM from ⟨hb2.grown hgr hb2.size (fun g e => HX.out.ob g e), hap, fun q e => by
              rcases hk2 with h | h
              · exact HX.out.ob q (by rw [← h]; exact e)
              · rw [h] at e
                injection e with e
                have h1 := HX.out.bl.size
                omega, fun q hq => by
              rcases hq with h | h
              · exact HX.out.bd q h
              · exact h, HRF2.out, (show i + 1 + R2.len = R.len + 1 from by have := HLEN.out; omega), by rw [Fo.len_app, HDL.out]; rfl, HNR.out, HSR.out, HGR.out, by rw [app_cons]; exact HX.out.eq, heap_grown (heap_old (p := (NodeC (.slice Aw ws.length cw) (.slice Ap ps.length cp) true (.slice Ak K.len ck))) HP1.out) hgr (fun e => by have h1 := HX.out.ob _ e; have h2 := HSM.out; have h3 := HS1.out; omega)⟩)
          clear hown hgr hk2 hap hls hl2 hb2
          go_wp2_with fail
          go_roundw
          case rel => exact .inr ⟨i + 1, _, R2, _, _, by go_num, rfl, HF.out⟩
          case measure => have := HLEN.out; simp [intOf]; omega
end Go.Proofs.Ytihmmmodimionaa.Tr
/- TreeNames, walked. -/
namespace Go.Proofs.Ytihmmmodimionaa.Tr
open Go.RowKit Go.Proofs.Ytihmmmodimionaa Go.Proofs.Ytihmmmodimionaa.Lx

theorem parse32 : ∃ F r, parseF t32 = .ok F r := by
  have h := read32
  unfold parseF
  rw [tok32, ← bsOf_len]
  simp only
  rw [if_pos trivial]
  rw [Nat.succ_eq_add_one] at h
  cases e : listF ((bsOf (tokRes t32).1).length + 1) 0 (0, 0) (bsOf (tokRes t32).1) with
  | ok F r => exact ⟨F, r, rfl⟩
  | err a b c => rw [e] at h; cases h
theorem parse33 : parseF t33 = .err 140 1 99 := by
  have h := read33
  unfold parseF
  rw [tok33, ← bsOf_len]
  simp only
  rw [if_pos trivial]
  rw [Nat.succ_eq_add_one] at h
  cases e : listF ((bsOf (tokRes t33).1).length + 1) 0 (0, 0) (bsOf (tokRes t33).1) with
  | ok F r => rw [e] at h; cases h
  | err a b c =>
    rw [e] at h
    obtain ⟨h1, h2, h3⟩ := of_decide_eq_true h
    rw [h1, h2, h3]
theorem w1 : writeF 0 (.cons [] [] false .nil .nil) = none := by kernel_rfl
theorem w2 : writeF 0 (.cons [⟨#[97]⟩] [] false (.cons [⟨#[98]⟩] [] false .nil .nil) .nil) = none := by kernel_rfl
theorem w3 : writeF 0 (.cons [⟨#[97, 34]⟩] [] false .nil .nil) = none := by kernel_rfl
theorem w4 : writeF 0 (.cons [⟨#[97, 32, 98]⟩, ⟨#[]⟩] [] true .nil .nil) = some [34, 97, 32, 98, 34, 32, 34, 34, 32, 123, 10, 125, 10] := by kernel_rfl
theorem rep_len : ∀ (n : Nat) (x : List UInt8), (rep n x).length = n * x.length
  | 0, x => by simp [rep]
  | n + 1, x => by rw [rep, List.length_append, rep_len n x, Nat.succ_mul]
theorem str_nil (w : World) (D : Nat → Prop) : StrV w D (.slice none 0 0) [] := ⟨none, 0, rfl, ⟨rfl, .inl ⟨rfl, rfl, rfl⟩⟩, fun a h => by cases h⟩
theorem pos_nil (w : World) (D : Nat → Prop) : PosV w D (.slice none 0 0) [] := ⟨none, 0, rfl, ⟨rfl, .inl ⟨rfl, rfl, rfl⟩⟩, fun a h => by cases h⟩
theorem row_src {w : World} {g n c size : Nat} {t : TypeId} {xs : List Value} (h : w.heap[g]? = some (.cells xs.toArray t (0, 0))) (hl : xs.length = n * size) : Src w (some ⟨g, 0, none⟩) n c size xs := ⟨hl, .inr ⟨_, rfl, row_at h⟩⟩
abbrev Dl (w : World) : Nat → Prop := fun q => q < w.heap.size
theorem lt_row {w : World} {g : Nat} {o : Obj} (h : w.heap[g]? = some o) : ∀ a, some (⟨g, 0, none⟩ : Addr) = some a → Dl w a.block := fun a e => by cases e; exact lt_heap h
theorem nil_src (w : World) (size : Nat) : Src w none 0 0 size [] := ⟨by simp, .inl ⟨rfl, rfl, rfl⟩⟩
/-- a list of one statement -/
theorem one_print {F : Fo} {xs : List Value} {x : World} {g : Nat} {t : TypeId} (h : x.heap[g]? = some (.cells xs.toArray t (0, 0))) (hf : FoV x (Dl x) F xs) (hl : F.len = 1) (hwt : wtF F ≤ 4398046511104) (hwb : WB F) {m : Int} (hm : x.cell? ⟨0, 0, none⟩ = some (.int .i64 m)) :
    Calls Try.prog 13 #[.slice (some ⟨g, 0, none⟩) 1 1] x fun e w' => e = .returned (printV (writeF 0 F)) ∧ Below x.heap.size x w' := by
  have := print_any F (some ⟨g, 0, none⟩) 1 xs (Dl x) x (row_src h (by rw [hf.len])) hf (fun q hq => hq) (lt_row h) hwt hwb m hm
  rw [hl] at this
  exact this
abbrev StrC (l : List ByteArray) : Obj := .cells (l.map Value.string).toArray 9
abbrev nilV : Value := .slice none 0 0
theorem str_row {x : World} {g : Nat} {l : List ByteArray} (h : x.heap[g]? = some (.cells (l.map Value.string).toArray 9 (0, 0))) : StrV x (Dl x) (.slice (some ⟨g, 0, none⟩) l.length l.length) l :=
  ⟨_, _, rfl, row_src h (by simp), fun a ha => ⟨lt_row h a ha, Nat.le_refl _⟩⟩
theorem print1 (z : World) (m : Int) (hm : z.cell? ⟨0, 0, none⟩ = some (.int .i64 m)) :
    Calls Try.prog 13 #[.slice (some ⟨z.heap.size, 0, none⟩) 1 1] (z.alloc (NodeC nilV nilV false nilV)) fun e w' => e = .returned (.tuple #[.string ⟨#[]⟩, .int .i64 1]) ∧ Below z.heap.size z w' := by
  refine (one_print (F := .cons [] [] false .nil .nil) (heap_new z _) ⟨nilV, nilV, none, 0, [], [], rfl, str_nil _ _, pos_nil _ _, nil_src _ _, fun a e => (by cases e), rfl, rfl⟩ rfl (by decide) ⟨fun w h => (by cases h), trivial, trivial⟩ (cellB (bel_one z _) hm)).mono ?_
  rintro e w' ⟨rfl, hb⟩
  exact ⟨by rw [w1]; rfl, below_wide (bel_one z _) hb⟩
theorem print3 (z : World) (m : Int) (hm : z.cell? ⟨0, 0, none⟩ = some (.int .i64 m)) :
    Calls Try.prog 13 #[.slice (some ⟨z.heap.size + 1, 0, none⟩) 1 1] ((z.alloc (StrC [⟨#[97, 34]⟩])).alloc (NodeC (.slice (some ⟨z.heap.size, 0, none⟩) 1 1) nilV false nilV)) fun e w' => e = .returned (.tuple #[.string ⟨#[]⟩, .int .i64 1]) ∧ Below z.heap.size z w' := by
  have hb2 := below_wide (bel_one z (StrC [⟨#[97, 34]⟩])) (bel_one (z.alloc (StrC [⟨#[97, 34]⟩])) (NodeC (.slice (some ⟨z.heap.size, 0, none⟩) 1 1) nilV false nilV))
  refine (one_print (F := .cons [⟨#[97, 34]⟩] [] false .nil .nil) (heap_new2 z _ _) ⟨_, nilV, none, 0, [], [], rfl, str_row (l := [⟨#[97, 34]⟩]) (heap_old (heap_new z _)), pos_nil _ _, nil_src _ _, fun a e => (by cases e), rfl, rfl⟩ rfl (by decide) ⟨fun w h => (by rcases List.mem_singleton.1 h with rfl; decide), trivial, trivial⟩ (cellB hb2 hm)).mono ?_
  rintro e w' ⟨rfl, hb⟩
  exact ⟨by rw [w3]; rfl, below_wide hb2 hb⟩
theorem print4 (z : World) (m : Int) (hm : z.cell? ⟨0, 0, none⟩ = some (.int .i64 m)) :
    Calls Try.prog 13 #[.slice (some ⟨z.heap.size + 1, 0, none⟩) 1 1] ((z.alloc (StrC [⟨#[97, 32, 98]⟩, ⟨#[]⟩])).alloc (NodeC (.slice (some ⟨z.heap.size, 0, none⟩) 2 2) nilV true nilV)) fun e w' => e = .returned (.tuple #[.string ⟨#[34, 97, 32, 98, 34, 32, 34, 34, 32, 123, 10, 125, 10]⟩, .int .i64 0]) ∧ Below z.heap.size z w' := by
  have hb2 := below_wide (bel_one z (StrC [⟨#[97, 32, 98]⟩, ⟨#[]⟩])) (bel_one (z.alloc (StrC [⟨#[97, 32, 98]⟩, ⟨#[]⟩])) (NodeC (.slice (some ⟨z.heap.size, 0, none⟩) 2 2) nilV true nilV))
  refine (one_print (F := .cons [⟨#[97, 32, 98]⟩, ⟨#[]⟩] [] true .nil .nil) (heap_new2 z _ _) ⟨_, nilV, none, 0, [], [], rfl, str_row (l := [⟨#[97, 32, 98]⟩, ⟨#[]⟩]) (heap_old (heap_new z _)), pos_nil _ _, nil_src _ _, fun a e => (by cases e), rfl, rfl⟩ rfl (by decide) ⟨fun w h => (by
    rcases List.mem_cons.1 h with rfl | h
    · decide
    · rcases List.mem_singleton.1 h with rfl; decide), trivial, trivial⟩ (cellB hb2 hm)).mono ?_
  rintro e w' ⟨rfl, hb⟩
  exact ⟨by rw [w4]; rfl, below_wide hb2 hb⟩
theorem print2 (z : World) (m : Int) (hm : z.cell? ⟨0, 0, none⟩ = some (.int .i64 m)) :
    Calls Try.prog 13 #[.slice (some ⟨z.heap.size + 3, 0, none⟩) 1 1] ((((z.alloc (StrC [⟨#[97]⟩])).alloc (StrC [⟨#[98]⟩])).alloc (NodeC (.slice (some ⟨z.heap.size + 1, 0, none⟩) 1 1) nilV false nilV)).alloc (NodeC (.slice (some ⟨z.heap.size, 0, none⟩) 1 1) nilV false (.slice (some ⟨z.heap.size + 2, 0, none⟩) 1 1))) fun e w' => e = .returned (.tuple #[.string ⟨#[]⟩, .int .i64 1]) ∧ Below z.heap.size z w' := by
  have e1 : (z.alloc (StrC [⟨#[97]⟩])).heap.size = z.heap.size + 1 := by simp
  have e2 : ((z.alloc (StrC [⟨#[97]⟩])).alloc (StrC [⟨#[98]⟩])).heap.size = z.heap.size + 2 := by simp
  have e3 : (((z.alloc (StrC [⟨#[97]⟩])).alloc (StrC [⟨#[98]⟩])).alloc (NodeC (.slice (some ⟨z.heap.size + 1, 0, none⟩) 1 1) nilV false nilV)).heap.size = z.heap.size + 3 := by simp
  have h1 := heap_new z (StrC [⟨#[97]⟩])
  have h2 := heap_new (z.alloc (StrC [⟨#[97]⟩])) (StrC [⟨#[98]⟩])
  have h3 := heap_new ((z.alloc (StrC [⟨#[97]⟩])).alloc (StrC [⟨#[98]⟩])) (NodeC (.slice (some ⟨z.heap.size + 1, 0, none⟩) 1 1) nilV false nilV)
  have h4 := heap_new (((z.alloc (StrC [⟨#[97]⟩])).alloc (StrC [⟨#[98]⟩])).alloc (NodeC (.slice (some ⟨z.heap.size + 1, 0, none⟩) 1 1) nilV false nilV)) (NodeC (.slice (some ⟨z.heap.size, 0, none⟩) 1 1) nilV false (.slice (some ⟨z.heap.size + 2, 0, none⟩) 1 1))
  rw [e1] at h2
  rw [e2] at h3
  rw [e3] at h4
  have hb2 := below_wide (below_wide (below_wide (bel_one z (StrC [⟨#[97]⟩])) (bel_one _ (StrC [⟨#[98]⟩]))) (bel_one _ (NodeC (.slice (some ⟨z.heap.size + 1, 0, none⟩) 1 1) nilV false nilV))) (bel_one _ (NodeC (.slice (some ⟨z.heap.size, 0, none⟩) 1 1) nilV false (.slice (some ⟨z.heap.size + 2, 0, none⟩) 1 1)))
  have s1 := heap_old (p := (NodeC (.slice (some ⟨z.heap.size, 0, none⟩) 1 1) nilV false (.slice (some ⟨z.heap.size + 2, 0, none⟩) 1 1))) (heap_old (p := (NodeC (.slice (some ⟨z.heap.size + 1, 0, none⟩) 1 1) nilV false nilV)) (heap_old (p := (StrC [⟨#[98]⟩])) h1))
  have s2 := heap_old (p := (NodeC (.slice (some ⟨z.heap.size, 0, none⟩) 1 1) nilV false (.slice (some ⟨z.heap.size + 2, 0, none⟩) 1 1))) (heap_old (p := (NodeC (.slice (some ⟨z.heap.size + 1, 0, none⟩) 1 1) nilV false nilV)) h2)
  have s3 := heap_old (p := (NodeC (.slice (some ⟨z.heap.size, 0, none⟩) 1 1) nilV false (.slice (some ⟨z.heap.size + 2, 0, none⟩) 1 1))) h3
  generalize (((z.alloc (StrC [⟨#[97]⟩])).alloc (StrC [⟨#[98]⟩])).alloc (NodeC (.slice (some ⟨z.heap.size + 1, 0, none⟩) 1 1) nilV false nilV)).alloc (NodeC (.slice (some ⟨z.heap.size, 0, none⟩) 1 1) nilV false (.slice (some ⟨z.heap.size + 2, 0, none⟩) 1 1)) = x at *
  refine (one_print (F := .cons [⟨#[97]⟩] [] false (.cons [⟨#[98]⟩] [] false .nil .nil) .nil) (x := x) (g := z.heap.size + 3) h4 ⟨_, nilV, some ⟨z.heap.size + 2, 0, none⟩, 1, [.slice (some ⟨z.heap.size + 1, 0, none⟩) 1 1, nilV, .bool false, nilV], [], rfl, str_row (l := [⟨#[97]⟩]) s1, pos_nil _ _, row_src s3 rfl, lt_row s3, ⟨_, nilV, none, 0, [], [], rfl, str_row (l := [⟨#[98]⟩]) s2, pos_nil _ _, nil_src _ _, fun a e => (by cases e), rfl, rfl⟩, rfl⟩ rfl (by decide) ⟨fun w h => (by rcases List.mem_singleton.1 h with rfl; decide), ⟨fun w h => (by rcases List.mem_singleton.1 h with rfl; decide), trivial, trivial⟩, trivial⟩ (cellB hb2 hm)).mono ?_
  rintro e w' ⟨rfl, hb⟩
  exact ⟨by rw [w2]; rfl, below_wide hb2 hb⟩
set_option maxHeartbeats 4000000 in
set_option maxRecDepth 100000 in
theorem names_any (w : World) (m : Int) (hm : w.cell? ⟨0, 0, none⟩ = some (.int .i64 m)) :
    Calls Try.prog 4 #[] w fun e w' => e = .returned (.bool true) ∧ Below w.heap.size w w' := by
  have h0 := lt_of_cell hm
  simp only at h0
  have HM := hide hm
  clear hm
  go_enter Try.func4, Try.ntmps4
  go_wp2_with fail
  go_loopw [1, 2, 3] (fun a b j wr => ∃ (k : Nat) (sb tb : ByteArray), a = .string sb ∧ b = .string tb ∧ j = .int .i64 k ∧ k ≤ 32 ∧ sb.size ≤ 3 * k ∧ tb.size ≤ k ∧ T sb = rep k [97, 32, 123] ∧ T tb = rep k [125] ∧ wr = w) (fun _ _ j _ => 32 - (intOf j).toNat)
  case atStart => exact ⟨0, _, _, rfl, rfl, rfl, Nat.zero_le _, Nat.le_refl _, Nat.le_refl _, rfl, rfl, rfl⟩
  case round =>
    obtain ⟨k, sb, tb, rfl, rfl, rfl, hk, hs, ht, hS, hT, hw⟩ := hrel
    subst hw
    have HS := hide hS
    have HT := hide hT
    clear hS hT
    rcases Nat.lt_or_ge k 32 with hlt | hge
    · have d1 : decide (k < 32) = true := decide_eq_true hlt
      have d1' : decide ((k : Int) < 32) = true := decide_eq_true (by omega)
      have z1 : (⟨#[97, 32, 123]⟩ : ByteArray).size = 3 := rfl
      have z2 : (⟨#[125]⟩ : ByteArray).size = 1 := rfl
      have HZ := hide (show (sb ++ ⟨#[97, 32, 123]⟩).size ≤ 3 * (k + 1) ∧ (tb ++ ⟨#[125]⟩).size ≤ k + 1 from by rw [ByteArray.size_append, ByteArray.size_append, z1, z2]; omega)
      have HA := hide (show T (sb ++ ⟨#[97, 32, 123]⟩) = rep (k + 1) [97, 32, 123] ∧ T (tb ++ ⟨#[125]⟩) = rep (k + 1) [125] from by rw [T_append, T_append, HS.out, HT.out]; exact ⟨rfl, rfl⟩)
      clear z1 z2
      go_wp2_with fail
      go_roundw
      case rel => exact ⟨k + 1, _, _, rfl, rfl, by go_num, by omega, HZ.out.1, HZ.out.2, HA.out.1, HA.out.2, by first | rfl | trivial⟩
      case measure => simp [intOf]; omega
    · obtain rfl : k = 32 := by omega
      have z1 : (⟨#[97, 32, 123]⟩ : ByteArray).size = 3 := rfl
      have z2 : (⟨#[125]⟩ : ByteArray).size = 1 := rfl
      obtain ⟨F1, r1, h1⟩ := parse32
      have HP1 := hide (parse_any (sb ++ tb) wr (by rw [ByteArray.size_append]; unfold maxLen; omega) m HM.out)
      have hT1 : T (sb ++ tb) = t32 := by rw [T_append, HS.out, HT.out]; rfl
      have hT2 : T (((sb ++ ⟨#[97, 32, 123]⟩) ++ tb) ++ ⟨#[125]⟩) = t33 := by rw [T_append, T_append, T_append, HS.out, HT.out]; rfl
      rw [hT1, h1] at HP1
      have HT2 := hide hT2
      have hy1 : (sb ++ ⟨#[97, 32, 123]⟩).size ≤ 99 := by rw [ByteArray.size_append, z1]; omega
      have hy2 : ((sb ++ ⟨#[97, 32, 123]⟩) ++ tb).size ≤ 131 := by rw [ByteArray.size_append]; omega
      have HY3 := hide (show (((sb ++ ⟨#[97, 32, 123]⟩) ++ tb) ++ ⟨#[125]⟩).size ≤ maxLen from by rw [ByteArray.size_append, z2]; unfold maxLen; omega)
      clear hT1 hT2 h1 z1 z2 hk hge
      go_wp2_with fail
      refine HP1.out.mono ?_
      rintro e x1 ⟨hb1, v1, xs1, B1, rfl, hl1⟩
      obtain ⟨A1, c1, rfl⟩ := own_slice hl1.own
      have HBa := hide (below_lo hb1 (bel_one x1 (PosC 0 0)) hb1.size)
      have HP2 := hide (parse_any (((sb ++ ⟨#[97, 32, 123]⟩) ++ tb) ++ ⟨#[125]⟩) (x1.alloc (PosC 0 0)) HY3.out m (cell_lo HBa.out (a := ⟨0, 0, none⟩) h0 HM.out))
      rw [HT2.out, parse33] at HP2
      clear hb1 hl1 HP1
      go_wp2_with fail
      refine HP2.out.mono ?_
      rintro e x2 ⟨hb2, _, rfl⟩
      have HBb := hide (below_lo (below_lo HBa.out hb2 HBa.out.size) (bel_one x2 (PosC 1 99)) (Nat.le_trans HBa.out.size hb2.size))
      have HQ := hide (heap_new x2 (PosC 1 99))
      have HR1 := hide (print1 (x2.alloc (PosC 1 99)) m (cell_lo HBb.out (a := ⟨0, 0, none⟩) h0 HM.out))
      have e1 : (x2.alloc (PosC 1 99)).heap.size = x2.heap.size + 1 := by simp
      rw [e1] at HR1
      clear hb2 HP2 e1 hy1 hy2
      go_wp2_with fail
      refine HR1.out.mono ?_
      rintro e p1 ⟨rfl, hb3⟩
      have HBc := hide (below_lo HBb.out (by simpa using hb3) HBb.out.size)
      have HQ1 := hide (show p1.heap[x2.heap.size]? = some (PosC 1 99) from (hb3.block _ (by omega)).trans HQ.out)
      have HR2 := hide (print2 p1 m (cell_lo HBc.out (a := ⟨0, 0, none⟩) h0 HM.out))
      clear hb3 HR1
      go_wp2_with fail
      refine HR2.out.mono ?_
      rintro e p2 ⟨rfl, hb4⟩
      have HBd := hide (below_lo HBc.out hb4 HBc.out.size)
      have HQ2 := hide (heapB hb4 HQ1.out)
      have HR3 := hide (print3 p2 m (cell_lo HBd.out (a := ⟨0, 0, none⟩) h0 HM.out))
      clear hb4 HR2
      go_wp2_with fail
      refine HR3.out.mono ?_
      rintro e p3 ⟨rfl, hb5⟩
      have HBe := hide (below_lo HBd.out hb5 HBd.out.size)
      have HQ3 := hide (heapB hb5 HQ2.out)
      have HR4 := hide (print4 p3 m (cell_lo HBe.out (a := ⟨0, 0, none⟩) h0 HM.out))
      clear hb5 HR3
      go_wp2_with fail
      refine HR4.out.mono ?_
      rintro e p4 ⟨rfl, hb6⟩
      have HBf := hide (below_lo HBe.out hb6 HBe.out.size)
      have hq4 := heapB hb6 HQ3.out
      have q0 := cell_heap (j := 0) hq4 rfl
      have q1 := cell_heap (j := 1) hq4 rfl
      clear hb6 HR4 hq4
      go_wp2_with fail
      refine (find_nil _).mono ?_
      rintro e p5 ⟨rfl, rfl⟩
      go_wp2_with fail
      refine (merge_nil _).mono ?_
      rintro e p6 ⟨rfl, rfl⟩
      go_wp2_with fail
      go_ret
      exact ⟨rfl, HBf.out⟩
end Go.Proofs.Ytihmmmodimionaa.Tr
/- awake: the fixed text: what it reads as, what it inherits, how it is written. -/
namespace Go.Proofs.Ytihmmmodimionaa.Tr
open Go.RowKit Go.Proofs.Ytihmmmodimionaa Go.Proofs.Ytihmmmodimionaa.Lx

def mapL (G : Fo) : Fo → Fo
  | .nil => .nil
  | .cons ws ps b K R => .cons ws ps b (passL K G) (mapL G R)
theorem mapL_app (G : Fo) : ∀ F H : Fo, mapL G (F.app H) = (mapL G F).app (mapL G H)
  | .nil, _ => rfl
  | .cons ws ps b K R, H => by rw [Fo.app, mapL, mapL, mapL_app G R H]; rfl
theorem foN_map (G : Fo) (ws : Nat → List ByteArray) (ps : Nat → List (Int × Int)) (K : Nat → Fo) : ∀ n, foN ws ps (fun e => passL (K e) G) n = mapL G (foN ws ps K n)
  | 0 => rfl
  | n + 1 => by rw [foN, foN, mapL_app, foN_map G ws ps K n]; rfl
theorem CN.fov {w0 w : World} {g cv n : Nat} {xs : List Value} {ws : Nat → List ByteArray} {ps : Nat → List (Int × Int)} {aw ap kv : Nat → Value} {K : Nat → Fo} {W : Nat → Prop} (h : CN w0 w g cv n xs ws ps aw ap kv K W) : ∀ m, m ≤ n → FoV w (Dl w) (foN ws ps K m) (xs.take (m * 4))
  | 0, _ => by simp [foN, FoV]
  | m + 1, hm => by
    have ih := CN.fov h m (by omega)
    have hl : xs.length = n * 4 := h.own.1
    obtain ⟨y, B, hlo, _⟩ := h.lo m (by omega)
    obtain ⟨A, c, hkv⟩ := own_slice hlo.own
    have e : xs.take ((m + 1) * 4) = xs.take (m * 4) ++ [aw m, ap m, .bool true, kv m] := by
      have h0 := h.x0 m (by omega)
      have h1 := h.x1 m (by omega)
      have h2 := h.x2 m (by omega)
      have h3 := h.x3 m (by omega)
      rw [show (m + 1) * 4 = m * 4 + 1 + 1 + 1 + 1 by omega, List.take_add_one, List.take_add_one, List.take_add_one, List.take_add_one, h0, h1, h2, h3]
      simp
    rw [e, foN]
    refine FoV.app ih ⟨aw m, ap m, A, c, y, [], by rw [hkv], (h.sw m (by omega)).mono (fun q hq => (h.wW q hq).2.1), (h.sp m (by omega)).mono (fun q hq => (h.wW q hq).2.1), ?_, fun a ha => ?_, hlo.fo.mono (fun q hq => (hlo.hB q hq).2.1), rfl⟩
    · have := hlo.own
      rw [hkv] at this
      exact own_src this
    · exact (hlo.own.lt a.block (by rw [hkv, ha]; rfl)).2
def bG : ByteArray := ⟨#[103, 114, 111, 117, 112, 115]⟩
def bg : ByteArray := ⟨#[103]⟩
def be : ByteArray := ⟨#[101]⟩
def bany : ByteArray := ⟨#[60, 42, 62]⟩
def bcost : ByteArray := ⟨#[99, 111, 115, 116]⟩
def b5 : ByteArray := ⟨#[53]⟩
def bup : ByteArray := ⟨#[117, 112]⟩
def bapply : ByteArray := ⟨#[97, 112, 112, 108, 121, 45, 103, 114, 111, 117, 112, 115]⟩
def bx : ByteArray := ⟨#[120]⟩
def b7 : ByteArray := ⟨#[55]⟩
def bY : ByteArray := ⟨#[121]⟩
def G0 : Fo := .cons [bcost, b5] [(1, 22), (1, 27)] false .nil (.cons [bup] [(1, 30)] false .nil .nil)
def R0 : Fo := .cons [be, bx] [(1, 56), (1, 58)] true (.cons [bcost, b7] [(1, 62), (1, 67)] false .nil .nil) (.cons [be, bY] [(1, 72), (1, 74)] true .nil .nil)
def F0 : Fo := textF bG bg bapply [(1, 1)] [(1, 10)] [(1, 40), (1, 53)] [be, bany] [(1, 14), (1, 16)] false .nil R0 G0
def t0 : List UInt8 := [103, 114, 111, 117, 112, 115, 32, 123, 32, 103, 32, 123, 32, 101, 32, 60, 42, 62, 32, 123, 32, 99, 111, 115, 116, 32, 53, 59, 32, 117, 112, 59, 32, 125, 32, 125, 32, 125, 32, 97, 112, 112, 108, 121, 45, 103, 114, 111, 117, 112, 115, 32, 103, 59, 32, 101, 32, 120, 32, 123, 32, 99, 111, 115, 116, 32, 55, 59, 32, 125, 32, 101, 32, 121, 32, 123, 32, 125]
set_option maxRecDepth 100000 in
theorem parse0 : parseF t0 = .ok F0 [] := by kernel_rfl
set_option maxRecDepth 100000 in
theorem nd0 : ndF .nil F0 = true := by kernel_rfl
theorem ng0 : notG (restF bapply bg [(1, 40), (1, 53)] false .nil R0) = true := by kernel_rfl
set_option maxRecDepth 100000 in
theorem na0 : noAp (.cons [be, bany] [(1, 14), (1, 16)] true G0 .nil) = true := by kernel_rfl
set_option maxRecDepth 100000 in
theorem kn0 : knF bg (restF bapply bg [(1, 40), (1, 53)] false .nil R0) = true := by kernel_rfl
theorem ap0 : applB [bapply, bg] = true := by kernel_rfl
theorem bk0 : blks R0 = true := by kernel_rfl
theorem lf0 : leafF G0 = true := by kernel_rfl
theorem cs0 : Lib.containsS [be, bany] ⟨#[60, 42, 62]⟩ = true := (Lib.containsS_iff _ _).2 (by simp [bany])
set_option maxRecDepth 100000 in
theorem sz0 : szF F0 ≤ 1099511627776 := of_decide_eq_true (by kernel_rfl)
theorem gd0 : Gd F0 := by simp [F0, textF, restF, R0, G0, Gd]
set_option maxRecDepth 100000 in
theorem all0 : allP (fun ws K => fitL ws [be, bany] = true ∧ ws.length ≤ 1099511627776 ∧ szF K + szF G0 ≤ 1099511627776 ∧ Gd K) R0 := by
  refine ⟨⟨by kernel_rfl, of_decide_eq_true (by kernel_rfl), of_decide_eq_true (by kernel_rfl), ?_⟩, ⟨by kernel_rfl, of_decide_eq_true (by kernel_rfl), of_decide_eq_true (by kernel_rfl), ?_⟩, trivial⟩ <;> simp [Gd]
set_option maxRecDepth 100000 in
theorem wt0 : wtF (mapL G0 R0) ≤ 4398046511104 := of_decide_eq_true (by kernel_rfl)
set_option maxRecDepth 100000 in
theorem wr0 : writeF 0 (mapL G0 R0) = some [101, 32, 120, 32, 123, 10, 32, 32, 32, 32, 99, 111, 115, 116, 32, 55, 59, 10, 32, 32, 32, 32, 117, 112, 59, 10, 125, 10, 101, 32, 121, 32, 123, 10, 32, 32, 32, 32, 99, 111, 115, 116, 32, 53, 59, 10, 32, 32, 32, 32, 117, 112, 59, 10, 125, 10] := by kernel_rfl
end Go.Proofs.Ytihmmmodimionaa.Tr
/- awake, walked. -/
namespace Go.Proofs.Ytihmmmodimionaa.Tr
open Go.RowKit Go.Proofs.Ytihmmmodimionaa Go.Proofs.Ytihmmmodimionaa.Lx

theorem inherit0 (A : Option Addr) (c : Nat) (xs : List Value) (D : Nat → Prop) (w : World) (hs : Src w A F0.len c 4 xs) (hf : FoV w D F0 xs) (hD : ∀ q, D q → q < w.heap.size) (hA : ∀ a, A = some a → a.block < w.heap.size) :
    Calls Try.prog 46 #[.slice A F0.len c] w (InhR R0 G0 w) :=
  inherit_one bG bg bapply [(1, 1)] [(1, 10)] [(1, 40), (1, 53)] [be, bany] [(1, 14), (1, 16)] false .nil R0 G0 A c xs D w hs hf hD hA sz0 gd0 nd0 rfl ng0 na0 kn0 ap0 bk0 (by simp [R0, Fo.len]) lf0 cs0 all0
theorem wb0 : WB (mapL G0 R0) := by
  have e : mapL G0 R0 = .cons [be, bx] [(1, 56), (1, 58)] true (.cons [bcost, b7] [(1, 62), (1, 67)] false .nil (.cons [bup] [(1, 30)] false .nil .nil)) (.cons [be, bY] [(1, 72), (1, 74)] true (.cons [bcost, b5] [(1, 22), (1, 27)] false .nil (.cons [bup] [(1, 30)] false .nil .nil)) .nil) := by kernel_rfl
  rw [e]
  simp only [WB, List.mem_cons, List.not_mem_nil, or_false, forall_eq_or_imp, forall_eq, and_true, true_and]
  exact of_decide_eq_true (by kernel_rfl)
set_option maxHeartbeats 4000000 in
set_option maxRecDepth 100000 in
theorem awake_any (w : World) (m : Int) (hm : w.cell? ⟨0, 0, none⟩ = some (.int .i64 m)) :
    Calls Try.prog 20 #[] w fun e w' => e = .returned (.bool true) ∧ Below w.heap.size w w' := by
  have h0 := lt_of_cell hm
  simp only at h0
  have HM := hide hm
  have HP := hide (show ∀ s : ByteArray, T s = t0 → s.size ≤ maxLen → Calls Try.prog 12 #[.string s] w (ParseOut (.ok F0 []) w) from fun s h1 h2 => by
    have := parse_any s w h2 m hm
    rw [h1, parse0] at this
    exact this)
  clear hm
  go_enter Try.func20, Try.ntmps20
  go_wp2_with fail
  refine (HP.out _ (by kernel_rfl) (of_decide_eq_true (by kernel_rfl))).mono ?_
  rintro e x1 ⟨hb1, v, xs, B, rfl, hl⟩
  have HB1 := hide (below_lo hb1 (bel_one x1 (PosC 0 0)) hb1.size)
  have hl1 := hl.grow (World.grownBy_alloc x1 (PosC 0 0) none) (fun b e => by cases e)
  obtain ⟨Av, cv, rfl⟩ := own_slice hl.own
  have HI := hide (inherit0 Av cv xs B (x1.alloc (PosC 0 0)) (own_src hl1.own) hl1.fo (fun q hq => (hl1.hB q hq).2.1) (fun a ha => (hl1.own.lt a.block (by rw [ha]; rfl)).2))
  clear hb1 hl hl1 HP
  generalize F0.len = ln at *
  go_wp2_with fail
  refine HI.out.mono ?_
  generalize x1.alloc (PosC 0 0) = x2 at *
  rintro e wI ⟨hbI, w0, g, c2, n, xs2, ws, ps, aw, ap, kv, K, D, rfl, hcn, heq⟩
  have HB2 := hide (below_lo (below_lo HB1.out hbI HB1.out.size) (bel_one wI (PosC 0 0)) (Nat.le_trans HB1.out.size hbI.size))
  have hc3 := hcn.below (bel_one wI (PosC 0 0))
  have hfv := hc3.fov n (Nat.le_refl _)
  rw [List.take_of_length_le (by rw [hc3.own.1]; exact Nat.le_refl _), foN_map, heq] at hfv
  have hln : (mapL G0 R0).len = n := by rw [← heq, ← foN_map, foN_len]
  have HPR := hide (print_any (mapL G0 R0) (some ⟨g, 0, none⟩) c2 xs2 (Dl (wI.alloc (PosC 0 0))) (wI.alloc (PosC 0 0)) (by rw [hln]; exact own_src hc3.own) hfv (fun q hq => hq) (fun a ha => by cases ha; exact (hc3.own.lt g rfl).2) wt0 wb0 m (cell_lo HB2.out (a := ⟨0, 0, none⟩) h0 HM.out))
  rw [hln, wr0] at HPR
  clear hbI hcn heq hc3 hfv hln HI
  go_wp2_with fail
  refine HPR.out.mono ?_
  generalize wI.alloc (PosC 0 0) = x3 at *
  rintro e x4 ⟨rfl, hb4⟩
  have HB4 := hide (below_lo HB2.out hb4 HB2.out.size)
  clear hb4 HPR
  unfold printV
  go_wp2_with fail
  go_ret
  exact ⟨rfl, HB4.out⟩
end Go.Proofs.Ytihmmmodimionaa.Tr
/- Rows in memory; same, Same and Exact on rows that are the same. -/
namespace Go.Proofs.Ytihmmmodimionaa.Tr
open Go.RowKit Go.Proofs.Ytihmmmodimionaa Go.Proofs.Ytihmmmodimionaa.Lx

def RwV (w : World) (B : Nat → Prop) : List RowD → List Value → Prop
  | [], xs => xs = []
  | r :: rs, xs => ∃ vw vp xs', xs = .int .i64 r.deep :: vw :: vp :: .bool r.op :: xs' ∧ StrV w B vw r.ws ∧ PosV w B vp r.ps ∧ RwV w B rs xs'
section
variable {w w' : World} {B B' : Nat → Prop}
theorem RwV.keep : ∀ {rs : List RowD} {xs : List Value}, RwV w B rs xs → (∀ b, B b → w'.heap[b]? = w.heap[b]?) → RwV w' B rs xs
  | [], _, h, _ => h
  | r :: rs, xs, h, hb => by
    obtain ⟨vw, vp, xs', e, h1, h2, h3⟩ := h
    exact ⟨vw, vp, xs', e, h1.keep hb, h2.keep hb, RwV.keep h3 hb⟩
theorem RwV.mono : ∀ {rs : List RowD} {xs : List Value}, RwV w B rs xs → (∀ b, B b → B' b) → RwV w B' rs xs
  | [], _, h, _ => h
  | r :: rs, xs, h, hb => by
    obtain ⟨vw, vp, xs', e, h1, h2, h3⟩ := h
    exact ⟨vw, vp, xs', e, h1.mono hb, h2.mono hb, RwV.mono h3 hb⟩
theorem RwV.len : ∀ {rs : List RowD} {xs : List Value}, RwV w B rs xs → xs.length = rs.length * 4
  | [], _, h => by rw [show _ = [] from h]; rfl
  | r :: rs, xs, h => by
    obtain ⟨vw, vp, xs', e, h1, h2, h3⟩ := h
    have := RwV.len h3
    rw [e]
    simp only [List.length_cons]
    omega
theorem RwV.app : ∀ {rs qs : List RowD} {xs ys : List Value}, RwV w B rs xs → RwV w B qs ys → RwV w B (rs ++ qs) (xs ++ ys)
  | [], _, _, _, h, h' => by rw [show _ = [] from h]; exact h'
  | r :: rs, qs, xs, ys, h, h' => by
    obtain ⟨vw, vp, xs', e, h1, h2, h3⟩ := h
    exact ⟨vw, vp, xs' ++ ys, by rw [e]; rfl, h1, h2, RwV.app h3 h'⟩
theorem RwV.one : ∀ {rs : List RowD} {xs : List Value}, RwV w B rs xs → ∀ u ∈ xs, u.oneCell' = true
  | [], _, h, u, hu => by rw [show _ = [] from h] at hu; cases hu
  | r :: rs, xs, h, u, hu => by
    obtain ⟨vw, vp, xs', e, ⟨_, _, e1, _⟩, ⟨_, _, e2, _⟩, h3⟩ := h
    rw [e] at hu
    rcases List.mem_cons.1 hu with q | hu
    · rw [q]; rfl
    rcases List.mem_cons.1 hu with q | hu
    · rw [q, e1]; rfl
    rcases List.mem_cons.1 hu with q | hu
    · rw [q, e2]; rfl
    rcases List.mem_cons.1 hu with q | hu
    · rw [q]; rfl
    · exact RwV.one h3 u hu
theorem RwV.at : ∀ {rs : List RowD} {xs : List Value} {i : Nat} {r : RowD}, RwV w B rs xs → rs[i]? = some r → ∃ vw vp, xs[i * 4]? = some (.int .i64 r.deep) ∧ xs[i * 4 + 1]? = some vw ∧ xs[i * 4 + 2]? = some vp ∧ xs[i * 4 + 3]? = some (.bool r.op) ∧ StrV w B vw r.ws ∧ PosV w B vp r.ps
  | [], _, i, r, _, h => by simp at h
  | q :: rs, xs, 0, r, hv, h => by
    obtain ⟨vw, vp, xs', e, h1, h2, h3⟩ := hv
    obtain rfl : q = r := by simpa using h
    exact ⟨vw, vp, by rw [e]; rfl, by rw [e]; rfl, by rw [e]; rfl, by rw [e]; rfl, h1, h2⟩
  | q :: rs, xs, i + 1, r, hv, h => by
    obtain ⟨vw, vp, xs', e, h1, h2, h3⟩ := hv
    obtain ⟨vw', vp', g0, g1, g2, g3, g4, g5⟩ := RwV.at h3 (by simpa using h)
    refine ⟨vw', vp', ?_, ?_, ?_, ?_, g4, g5⟩
    · rw [e, show (i + 1) * 4 = i * 4 + 1 + 1 + 1 + 1 by omega]; exact g0
    · rw [e, show (i + 1) * 4 + 1 = i * 4 + 1 + 1 + 1 + 1 + 1 by omega]; exact g1
    · rw [e, show (i + 1) * 4 + 2 = i * 4 + 2 + 1 + 1 + 1 + 1 by omega]; exact g2
    · rw [e, show (i + 1) * 4 + 3 = i * 4 + 3 + 1 + 1 + 1 + 1 by omega]; exact g3
end
set_option maxHeartbeats 2000000 in
set_option maxRecDepth 100000 in
theorem same_eq (us : List ByteArray) (A B : Option Addr) (c d : Nat) (w : World) (hu : Src w A us.length c 1 (us.map Value.string)) (hv : Src w B us.length d 1 (us.map Value.string)) (hl : us.length ≤ 1099511627776) :
    Calls Try.prog 51 #[.slice A us.length c, .slice B us.length d] w fun e w' => e = .returned (.bool true) ∧ Below w.heap.size w w' := by
  have HU := hide hu
  have HV := hide hv
  clear hu hv
  go_enter Try.func51, Try.ntmps51
  go_wp2_with fail
  go_loopw [5] (fun j wr => ∃ i : Nat, j = .int .i64 i ∧ i ≤ us.length ∧ Below w.heap.size w wr) (fun j _ => us.length - (intOf j).toNat)
  case atStart => exact ⟨0, rfl, Nat.zero_le _, Below.refl _ _⟩
  case round =>
    obtain ⟨i, rfl, hi, hb⟩ := hrel
    have HB := hide hb
    rcases Nat.lt_or_ge i us.length with hlt | hge
    · obtain ⟨ub, uo, rfl⟩ := src_spot HU.out (by omega) (Nat.le_refl _)
      obtain ⟨vb, vo, rfl⟩ := src_spot HV.out (by omega) (Nat.le_refl _)
      have c0 := lat_cell (src_cells (HU.out.below hb) i (.string us[i]) (by rw [List.getElem?_map, List.getElem?_eq_getElem hlt]; rfl))
      have c1 := lat_cell (src_cells (HV.out.below hb) i (.string us[i]) (by rw [List.getElem?_map, List.getElem?_eq_getElem hlt]; rfl))
      have d1 : decide (i < us.length) = true := decide_eq_true hlt
      have d1' : decide ((i : Int) < (us.length : Int)) = true := decide_eq_true (by omega)
      have d2 : ((i : Int) < (us.length : Int)) := by omega
      have HLT := hide hlt
      clear hb
      generalize us[i] = x at *
      go_wp2_with fail
      refine wp_region_lat (by kernel_rfl) (by kernel_rfl) ?_
      repeat (first | go_big_quiet_step ((fail)) | quiet_step ((fail)))
      refine wpQuiet_nil ?_
      intro _ hlat
      obtain ⟨wq, rfl⟩ := hlat
      have HBL := hide (below_wide HB.out (lat_below wr wq))
      go_wp2_with fail
      go_roundw
      case rel => exact ⟨i + 1, by go_num, HLT.out, HBL.out⟩
      case measure => have := HLT.out; simp [intOf]; omega
    · have d1 : decide (i < us.length) = false := decide_eq_false (by omega)
      have d1' : decide ((i : Int) < (us.length : Int)) = false := decide_eq_false (by omega)
      clear hb hi hge
      go_wp2_with fail
      go_ret
      exact ⟨rfl, HB.out⟩
end Go.Proofs.Ytihmmmodimionaa.Tr
/- Same and Exact on rows that are the same. -/
namespace Go.Proofs.Ytihmmmodimionaa.Tr
open Go.RowKit Go.Proofs.Ytihmmmodimionaa Go.Proofs.Ytihmmmodimionaa.Lx

set_option maxHeartbeats 4000000 in
set_option maxRecDepth 100000 in
theorem Same_eq (rs : List RowD) (A B : Option Addr) (c d : Nat) (xs ys : List Value) (D E : Nat → Prop) (w : World) (hx : Src w A rs.length c 4 xs) (hxv : RwV w D rs xs) (hy : Src w B rs.length d 4 ys) (hyv : RwV w E rs ys) (hl : rs.length ≤ 1099511627776) (hw : ∀ r ∈ rs, r.ws.length ≤ 1099511627776) :
    Calls Try.prog 26 #[.slice A rs.length c, .slice B rs.length d] w fun e w' => e = .returned (.bool true) ∧ Below w.heap.size w w' := by
  have HX := hide hx
  have HY := hide hy
  have HXV := hide hxv
  have HYV := hide hyv
  have HW := hide hw
  clear hx hy hxv hyv hw
  go_enter Try.func26, Try.ntmps26
  go_wp2_with fail
  go_loopw [5] (fun j wr => ∃ i : Nat, j = .int .i64 i ∧ i ≤ rs.length ∧ Below w.heap.size w wr) (fun j _ => rs.length - (intOf j).toNat)
  case atStart => exact ⟨0, rfl, Nat.zero_le _, Below.refl _ _⟩
  case round =>
    obtain ⟨i, rfl, hi, hb⟩ := hrel
    have HB := hide hb
    rcases Nat.lt_or_ge i rs.length with hlt | hge
    · obtain ⟨b1, o1, rfl⟩ := src_spot HX.out (by omega) (by decide)
      obtain ⟨b2, o2, rfl⟩ := src_spot HY.out (by omega) (by decide)
      obtain ⟨vw, vp, g0, g1, g2, g3, hvw, hvp⟩ := HXV.out.at (List.getElem?_eq_getElem hlt)
      obtain ⟨uw, up, k0, k1, k2, k3, huw, hup⟩ := HYV.out.at (List.getElem?_eq_getElem hlt)
      obtain ⟨Aw, cw, rfl, hws, hwB⟩ := hvw
      obtain ⟨Bw, dw, rfl, hus, huB⟩ := huw
      have sx := src_cells (HX.out.below hb)
      have sy := src_cells (HY.out.below hb)
      have x0 := lat_cell (sx _ _ g0)
      have x1 := lat_cell (sx _ _ g1)
      have x3 := lat_cell (sx _ _ g3)
      have y0 := lat_cell (sy _ _ k0)
      have y1 := lat_cell (sy _ _ k1)
      have y3 := lat_cell (sy _ _ k3)
      rw [← Nat.add_assoc] at x1 x3 y1 y3
      have d1 : decide (i < rs.length) = true := decide_eq_true hlt
      have d1' : decide ((i : Int) < (rs.length : Int)) = true := decide_eq_true (by omega)
      have d2 : ((i : Int) < (rs.length : Int)) := by omega
      have hwl := HW.out rs[i] (List.getElem_mem hlt)
      have HSM := hide (fun y => same_eq rs[i].ws Aw Bw cw dw (lat wr y) ((hws.below hb).below (lat_below _ y)) ((hus.below hb).below (lat_below _ y)) hwl)
      have HLT := hide hlt
      clear hb sx sy g0 g1 g2 g3 k0 k1 k2 k3 hvp hup hws hwB hus huB hwl
      generalize rs[i] = r at *
      cases hrb : r.op
      all_goals
        rw [hrb] at x3 y3
        clear hrb
        go_wp2_with fail
        refine wp_region_lat (by kernel_rfl) (by kernel_rfl) ?_
        repeat (first | go_big_quiet_step ((exact calls_lat (HSM.out _))) | quiet_step ((exact calls_lat (HSM.out _))))
        refine wpQuiet_nil ?_
        intro _ hlat
        obtain ⟨wq, rfl⟩ := hlat
        have HBL := hide (below_wide HB.out (lat_below wr wq))
        go_wp2_with fail
        go_roundw
        case rel => exact ⟨i + 1, by go_num, HLT.out, HBL.out⟩
        case measure => have := HLT.out; simp [intOf]; omega
    · have d1 : decide (i < rs.length) = false := decide_eq_false (by omega)
      have d1' : decide ((i : Int) < (rs.length : Int)) = false := decide_eq_false (by omega)
      clear hb hi hge
      go_wp2_with fail
      go_ret
      exact ⟨rfl, HB.out⟩
set_option maxHeartbeats 4000000 in
set_option maxRecDepth 100000 in
theorem Exact_eq (rs : List RowD) (A B : Option Addr) (c d : Nat) (xs ys : List Value) (D E : Nat → Prop) (w : World) (hx : Src w A rs.length c 4 xs) (hxv : RwV w D rs xs) (hy : Src w B rs.length d 4 ys) (hyv : RwV w E rs ys) (hl : rs.length ≤ 1099511627776) (hw : ∀ r ∈ rs, r.ws.length ≤ 1099511627776 ∧ r.ps.length ≤ 1099511627776) :
    Calls Try.prog 17 #[.slice A rs.length c, .slice B rs.length d] w fun e w' => e = .returned (.bool true) ∧ Below w.heap.size w w' := by
  have HSA := hide (Same_eq rs A B c d xs ys D E w hx hxv hy hyv hl (fun r hr => (hw r hr).1))
  have HX := hide hx
  have HY := hide hy
  have HXV := hide hxv
  have HYV := hide hyv
  have HW := hide hw
  clear hx hy hxv hyv hw
  go_enter Try.func17, Try.ntmps17
  go_wp2_with fail
  refine HSA.out.mono ?_
  rintro e w1 ⟨rfl, hb1⟩
  have HB1 := hide hb1
  clear hb1 HSA
  go_wp2_with fail
  go_loopw [5] (fun j wr => ∃ i : Nat, j = .int .i64 i ∧ i ≤ rs.length ∧ Below w.heap.size w wr) (fun j _ => rs.length - (intOf j).toNat)
  case atStart => exact ⟨0, rfl, Nat.zero_le _, HB1.out⟩
  case round =>
    obtain ⟨i, rfl, hi, hb⟩ := hrel
    have HB := hide hb
    rcases Nat.lt_or_ge i rs.length with hlt | hge
    · obtain ⟨b1, o1, rfl⟩ := src_spot HX.out (by omega) (by decide)
      obtain ⟨b2, o2, rfl⟩ := src_spot HY.out (by omega) (by decide)
      obtain ⟨vw, vp, g0, g1, g2, g3, hvw, hvp⟩ := HXV.out.at (List.getElem?_eq_getElem hlt)
      obtain ⟨uw, up, k0, k1, k2, k3, huw, hup⟩ := HYV.out.at (List.getElem?_eq_getElem hlt)
      obtain ⟨Ap, cp, rfl, hps, hpB⟩ := hvp
      obtain ⟨Bp, dp, rfl, hqs, hqB⟩ := hup
      have HC := hide (show ∀ x, Below w.heap.size w x → x.cell? ⟨b1, o1 + i * 4 + 2, none⟩ = some (.slice Ap rs[i].ps.length cp) ∧ x.cell? ⟨b2, o2 + i * 4 + 2, none⟩ = some (.slice Bp rs[i].ps.length dp) from fun x hx => by
        have h1 := src_cells (HX.out.below hx) _ _ g2
        have h2 := src_cells (HY.out.below hx) _ _ k2
        rw [← Nat.add_assoc] at h1 h2
        exact ⟨h1, h2⟩)
      have HPS := hide hps
      have HQS := hide hqs
      have d1 : decide (i < rs.length) = true := decide_eq_true hlt
      have d1' : decide ((i : Int) < (rs.length : Int)) = true := decide_eq_true (by omega)
      have d2 : ((i : Int) < (rs.length : Int)) := by omega
      have hpl := (HW.out rs[i] (List.getElem_mem hlt)).2
      have HLT := hide hlt
      clear hb g0 g1 g2 g3 k0 k1 k2 k3 hvw huw hps hpB hqs hqB hi
      generalize rs[i].ps = ps at *
      go_wp2_with fail
      go_loopw [6] (fun j wx => ∃ k : Nat, j = .int .i64 k ∧ k ≤ ps.length ∧ Below w.heap.size w wx) (fun j _ => ps.length - (intOf j).toNat)
      case atStart => exact ⟨0, rfl, Nat.zero_le _, HB.out⟩
      case round =>
        obtain ⟨k, rfl, hk, hbx⟩ := hrel
        have HBX := hide hbx
        obtain ⟨cc1, cc2⟩ := HC.out wr hbx
        rcases Nat.lt_or_ge k ps.length with hkl | hkg
        · obtain ⟨pb, po, rfl⟩ := src_spot HPS.out (by omega) (by decide)
          obtain ⟨qb, qo, rfl⟩ := src_spot HQS.out (by omega) (by decide)
          obtain ⟨p, hp⟩ : ∃ p, ps[k]? = some p := ⟨ps[k], List.getElem?_eq_getElem hkl⟩
          have hpg := posC_get ps k p hp
          have e0 := lat_cell (src_cells (HPS.out.below hbx) _ _ hpg.1)
          have e1 := lat_cell (src_cells (HPS.out.below hbx) _ _ hpg.2)
          have e2 := lat_cell (src_cells (HQS.out.below hbx) _ _ hpg.1)
          have e3 := lat_cell (src_cells (HQS.out.below hbx) _ _ hpg.2)
          rw [← Nat.add_assoc] at e1 e3
          have l1 := lat_cell cc1
          have l2 := lat_cell cc2
          have z1 : decide (k < ps.length) = true := decide_eq_true hkl
          have z1' : decide ((k : Int) < (ps.length : Int)) = true := decide_eq_true (by omega)
          have z2 : ((k : Int) < (ps.length : Int)) := by omega
          have z3 : decide (ps.length ≤ k) = false := decide_eq_false (by omega)
          have z3' : decide ((ps.length : Int) ≤ (k : Int)) = false := decide_eq_false (by omega)
          have HKL := hide hkl
          clear hbx hk hp hpg
          go_wp2_with fail
          refine wp_region_lat (by kernel_rfl) (by kernel_rfl) ?_
          repeat (first | go_big_quiet_step ((fail)) | quiet_step ((fail)))
          refine wpQuiet_nil ?_
          intro _ hlat
          obtain ⟨wq, rfl⟩ := hlat
          have HBL := hide (below_lo HBX.out (lat_below wr wq) HBX.out.size)
          go_wp2_with fail
          go_roundw
          case rel => exact ⟨k + 1, by go_num, HKL.out, HBL.out⟩
          case measure => have := HKL.out; simp [intOf]; omega
        · have z1 : decide (k < ps.length) = false := decide_eq_false (by omega)
          have z1' : decide ((k : Int) < (ps.length : Int)) = false := decide_eq_false (by omega)
          clear hbx hk hkg
          go_wp2_with fail
          go_roundw
          case rel => exact ⟨i + 1, by go_num, HLT.out, HBX.out⟩
          case measure => have := HLT.out; simp [intOf]; omega
    · have d1 : decide (i < rs.length) = false := decide_eq_false (by omega)
      have d1' : decide ((i : Int) < (rs.length : Int)) = false := decide_eq_false (by omega)
      clear hb hi hge
      go_wp2_with fail
      go_ret
      exact ⟨rfl, HB.out⟩
end Go.Proofs.Ytihmmmodimionaa.Tr
/- rows: statements as rows (printed by gen_uw.py). -/
namespace Go.Proofs.Ytihmmmodimionaa.Tr
open Go.RowKit Go.Proofs.Ytihmmmodimionaa Go.Proofs.Ytihmmmodimionaa.Lx

theorem infoR : (Try.prog.info? 62).map (fun i => (i.zero, i.size, i.bytes)) = some (some (.agg #[.int .i64 0, .slice none 0 0, .slice none 0 0, .bool false]), 4, 64) := by kernel_rfl
abbrev RowC (d : Int) (vw vp : Value) (b : Bool) : Obj := .cells #[.int .i64 d, vw, vp, .bool b] 62
/-- rows in a row of the call's own -/
structure Ro (w wr : World) (v : Value) (rs : List RowD) (xs : List Value) (B : Nat → Prop) : Prop where
  own : wr.ownsRow w.heap.size 62 4 v rs.length xs
  rw' : RwV wr B rs xs
  hB : ∀ b, B b → w.heap.size ≤ b ∧ b < wr.heap.size ∧ v.ownBlock ≠ some b
theorem Ro.grow {w wr w' : World} {v : Value} {rs : List RowD} {xs : List Value} {B : Nat → Prop} (h : Ro w wr v rs xs B) {row : Option Nat} (hg : wr.grownBy w' row) (hr : ∀ b, row = some b → b < w.heap.size) : Ro w w' v rs xs B :=
  ⟨own_grow h.own hg hr, h.rw'.keep (fun b hb => hg.block b (h.hB b hb).2.1 (fun e => by have h1 := hr b e.symm; have h2 := (h.hB b hb).1; omega)), fun b hb => ⟨(h.hB b hb).1, Nat.lt_of_lt_of_le (h.hB b hb).2.1 hg.size, (h.hB b hb).2.2⟩⟩
theorem Ro.base {w w0 wr : World} {v : Value} {rs : List RowD} {xs : List Value} {B : Nat → Prop} (h : Ro w wr v rs xs B) (hb : w0.heap.size ≤ w.heap.size) : Ro w0 wr v rs xs B :=
  ⟨own_base h.own hb, h.rw', fun b hb' => ⟨Nat.le_trans hb (h.hB b hb').1, (h.hB b hb').2⟩⟩
theorem Ro.app {w w1 w2 w3 : World} {v u v' : Value} {rs qs : List RowD} {xs ys : List Value} {B D : Nat → Prop} (h : Ro w w2 v rs xs B) (k : Ro w1 w2 u qs ys D) (hw : ∀ g, v.ownBlock = some g → g < w1.heap.size) (hww : w.heap.size ≤ w1.heap.size) (ho : w3.ownsRow w.heap.size 62 4 v' (rs.length + qs.length) (xs ++ ys)) (hg : w2.grownBy w3 v.ownBlock) (hk : v'.ownBlock = v.ownBlock ∨ v'.ownBlock = some w2.heap.size) : Ro w w3 v' (rs ++ qs) (xs ++ ys) (fun b => B b ∨ D b) := by
  have hne : ∀ b, B b ∨ D b → v.ownBlock ≠ some b := by
    intro b hb e
    rcases hb with hb | hb
    · exact (h.hB b hb).2.2 e
    · have h1 := hw b e
      have h2 := (k.hB b hb).1
      omega
  have hlt : ∀ b, B b ∨ D b → w.heap.size ≤ b ∧ b < w2.heap.size := by
    intro b hb
    rcases hb with hb | hb
    · exact ⟨(h.hB b hb).1, (h.hB b hb).2.1⟩
    · exact ⟨Nat.le_trans hww (k.hB b hb).1, (k.hB b hb).2.1⟩
  refine ⟨by rw [List.length_append]; exact ho, RwV.app ((h.rw'.keep (fun b hb => ?_)).mono (fun b hb => .inl hb)) ((k.rw'.keep (fun b hb => ?_)).mono (fun b hb => .inr hb)), fun b hb => ⟨(hlt b hb).1, Nat.lt_of_lt_of_le (hlt b hb).2 hg.size, ?_⟩⟩
  · exact hg.block b (hlt b (.inl hb)).2 (fun e => hne b (.inl hb) e.symm)
  · exact hg.block b (hlt b (.inr hb)).2 (fun e => hne b (.inr hb) e.symm)
  · rcases hk with e | e
    · rw [e]; exact hne b hb
    · rw [e]
      intro e'
      injection e' with e'
      have := (hlt b hb).2
      omega
theorem ro_one {w x : World} {d : Nat} {ws : List ByteArray} {ps : List (Int × Int)} {vw vp : Value} (b : Bool) (hx : w.heap.size ≤ x.heap.size) (how : x.ownsRow w.heap.size 9 1 vw ws.length (ws.map Value.string)) (hop : x.ownsRow w.heap.size 24 2 vp ps.length (posC ps)) :
    Ro w (x.alloc (RowC d vw vp b)) (.slice (some ⟨x.heap.size, 0, none⟩) 1 1) [⟨d, ws, ps, b⟩] [.int .i64 d, vw, vp, .bool b] (fun q => vw.ownBlock = some q ∨ vp.ownBlock = some q) := by
  have hbl := bel_one x (RowC d vw vp b)
  obtain ⟨Aw, cw, rfl⟩ := own_slice how
  obtain ⟨Ap, cp, rfl⟩ := own_slice hop
  have hlt : ∀ q, ((Value.slice Aw ws.length cw).ownBlock = some q ∨ (Value.slice Ap ps.length cp).ownBlock = some q) → w.heap.size ≤ q ∧ q < x.heap.size := by
    rintro q (h | h)
    · exact own_lt how h
    · exact own_lt hop h
  refine ⟨⟨rfl, .inr ⟨x.heap.size, 1, _, rfl, hx, heap_new x _, Nat.le_refl _, by decide, rfl, rfl⟩⟩, ⟨_, _, [], rfl, ⟨Aw, cw, rfl, (own_src how).below hbl, fun a ha => ⟨.inl (by rw [ha]; rfl), (own_caps how).1⟩⟩, ⟨Ap, cp, rfl, (own_src hop).below hbl, fun a ha => .inr (by rw [ha]; rfl)⟩, rfl⟩, fun q hq => ⟨(hlt q hq).1, by simp; have := (hlt q hq).2; omega, fun e => ?_⟩⟩
  have h2 := (hlt q hq).2
  have e' : x.heap.size = q := by injection e
  omega
def dpF : Nat → Fo → Bool
  | _, .nil => true
  | d, .cons _ _ _ K R => decide (d ≤ 60) && (dpF (d + 1) K && dpF d R)
theorem rows_len : ∀ (F : Fo) (d : Nat), (rowsF d F).length ≤ szF F
  | .nil, d => by simp [rowsF]
  | .cons ws ps b K R, d => by
    have h1 := rows_len K (d + 1)
    have h2 := rows_len R d
    rw [rowsF]
    show (rowsF (d + 1) K ++ rowsF d R).length + 1 ≤ ws.length + ps.length + 1 + szF K + szF R
    rw [List.length_append]
    omega
def RowsOut (d : Nat) (F : Fo) (w : World) (e : Ending) (w' : World) : Prop :=
  Below w.heap.size w w' ∧ ∃ v ys B, e = .returned v ∧ Ro w w' v (rowsF d F) ys B ∧ (F = .nil → v = .slice none 0 0)
/-- the statement that is read -/
structure NS (b o : Nat) (v0 v1 v2 v3 : Value) (x : World) : Prop where
  c0 : x.cell? ⟨b, o, none⟩ = some v0
  c1 : x.cell? ⟨b, o + 1, none⟩ = some v1
  c2 : x.cell? ⟨b, o + 2, none⟩ = some v2
  c3 : x.cell? ⟨b, o + 3, none⟩ = some v3
theorem NS.below {b o : Nat} {v0 v1 v2 v3 : Value} {w x : World} (h : NS b o v0 v1 v2 v3 w) (hb : Below w.heap.size w x) : NS b o v0 v1 v2 v3 x := ⟨cellB hb h.c0, cellB hb h.c1, cellB hb h.c2, cellB hb h.c3⟩
structure RwL (w wr : World) (va : Value) (d : Nat) (F : Fo) (i : Nat) (Fd R : Fo) (ys xs : List Value) (B D : Nat → Prop) : Prop where
  bl : Below w.heap.size w wr
  ro : Ro w wr va (rowsF d Fd) ys B
  fo : FoV w D R (xs.drop (i * 4))
  len : i + R.len = F.len
  dl : Fd.len = i
  nodes : R.nodes ≤ F.nodes
  sz : szF Fd + szF R ≤ szF F
  gd : Gd R
  dp : dpF d R = true
  eq : Fd.app R = F
  nl : Fd = .nil → va = .slice none 0 0
end Go.Proofs.Ytihmmmodimionaa.Tr
