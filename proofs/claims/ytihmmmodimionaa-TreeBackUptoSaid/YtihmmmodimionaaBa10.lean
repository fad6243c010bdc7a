/- What the claim leans on, part 10 of 15: UX YD WB YF YG YA VA VB. -/
import Derived.Test.YtihmmmodimionaaBa01
import Derived.Test.YtihmmmodimionaaBa02
import Derived.Test.YtihmmmodimionaaBa03
import Derived.Test.YtihmmmodimionaaBa04
import Derived.Test.YtihmmmodimionaaBa05
import Derived.Test.YtihmmmodimionaaBa06
import Derived.Test.YtihmmmodimionaaBa07
import Derived.Test.YtihmmmodimionaaBa08
import Derived.Test.YtihmmmodimionaaBa09
/- rows: statements as rows: the walk (printed by gen_ux.py). -/
namespace Go.Proofs.Ytihmmmodimionaa.Tr
open Go.RowKit Go.Proofs.Ytihmmmodimionaa Go.Proofs.Ytihmmmodimionaa.Lx

theorem posC_one {ps : List (Int × Int)} {u : Value} (h : u ∈ posC ps) : u.oneCell' = true := by
  unfold posC at h
  obtain ⟨q, _, hq⟩ := List.mem_flatMap.1 h
  simp at hq
  rcases hq with rfl | rfl <;> rfl
set_option maxHeartbeats 8000000 in
set_option maxRecDepth 100000 in
theorem rowsG_any : ∀ (n : Nat) (F : Fo), F.nodes = n → ∀ (d : Nat) (A : Option Addr) (c : Nat) (xs : List Value) (D : Nat → Prop) (w : World), Src w A F.len c 4 xs → FoV w D F xs → (∀ q, D q → q < w.heap.size) → (∀ a, A = some a → a.block < w.heap.size) → szF F ≤ 1099511627776 → Gd F → dpF d F = true → d ≤ 61 →
    Calls Try.prog 18 #[.slice A F.len c, .int .i64 d] w (RowsOut d F w) := by
  intro n
  induction n using Nat.strongRecOn with
  | _ n ih =>
  intro F hn d A c xs D w hs hf hD hA hsz hgd hdp hd
  obtain ⟨si, sz0, sz, ss, sb2⟩ := info_parts infoS
  obtain ⟨qi, qz0, qz, qs, qb⟩ := info_parts infoP
  obtain ⟨ri, rz0, rz, rss, rb⟩ := info_parts infoR
  by_cases h60 : d = 61
  · have hF : F = .nil := by
      cases F with
      | nil => rfl
      | cons ws ps b K R => rw [dpF, h60] at hdp; simp at hdp
    have e1 : decide (60 < d) = true := decide_eq_true (by omega)
    have e1' : decide ((60 : Int) < (d : Int)) = true := decide_eq_true (by omega)
    have HF := hide hF
    clear hs hf hD hA hsz hgd ih hdp h60 hF
    go_enter Try.func18, Try.ntmps18
    go_wp2_with fail
    go_ret
    exact ⟨Below.refl _ _, _, [], fun _ => False, rfl, ⟨by rw [HF.out]; exact ⟨rfl, .inl ⟨rfl, rfl⟩⟩, by rw [HF.out]; rfl, fun b h => h.elim⟩, fun _ => rfl⟩
  have e1 : decide (60 < d) = false := decide_eq_false (by omega)
  have e1' : decide ((60 : Int) < (d : Int)) = false := decide_eq_false (by omega)
  have HIH := hide ih
  have HS := hide hs
  have HST := hide (show RwL w w (.slice none 0 0) d F 0 .nil F [] xs (fun _ => False) D from ⟨Below.refl _ _, ⟨⟨rfl, .inl ⟨rfl, rfl⟩⟩, rfl, fun b h => h.elim⟩, by simpa using hf, by simp, rfl, Nat.le_refl _, by simp [szF], hgd, hdp, rfl, fun _ => rfl⟩)
  have hFl : F.len ≤ 1099511627776 := Nat.le_trans (len_sz F) hsz
  have HD := hide hD
  have HA := hide hA
  have HN := hide hn
  have HZ := hide hsz
  clear hs hf hD hA hsz hgd ih hn hdp
  go_enter Try.func18, Try.ntmps18
  go_wp2_with fail
  go_loopw [5, 6] (fun va j wr => ∃ (i : Nat) (Fd R : Fo) (ys : List Value) (B : Nat → Prop), j = .int .i64 i ∧ RwL w wr va d F i Fd R ys xs B D) (fun _ j _ => F.len - (intOf j).toNat)
  case atStart => exact ⟨0, .nil, F, [], _, rfl, HST.out⟩
  case round =>
    clear HST
    obtain ⟨i, Fd, R, zs, B, rfl, hX⟩ := hrel
    obtain ⟨Av, cv, rfl⟩ := own_slice hX.ro.own
    have HDL := hide hX.dl
    have HX := hide hX
    clear hX
    cases R with
    | nil =>
      have hi : i = F.len := by have := HX.out.len; simpa [Fo.len] using this
      have d1 : decide (i < F.len) = false := decide_eq_false (by omega)
      have d1' : decide ((i : Int) < (F.len : Int)) = false := decide_eq_false (by omega)
      have he : Fd = F := by have := HX.out.eq; rwa [Fo.app_nil] at this
      have HL := hide (show Ro w wr (.slice Av (rowsF d Fd).length cv) (rowsF d F) zs B ∧ (F = .nil → (Value.slice Av (rowsF d Fd).length cv) = .slice none 0 0) from by
        have h1 := HX.out.ro
        have h2 := HX.out.nl
        rw [← he]
        exact ⟨h1, h2⟩)
      clear hi he
      go_wp2_with fail
      go_ret
      exact ⟨HX.out.bl, _, _, _, rfl, HL.out.1, HL.out.2⟩
    | cons ws ps blk K R =>
      have hlen : i + (R.len + 1) = F.len := HX.out.len
      have d1 : decide (i < F.len) = true := decide_eq_true (by omega)
      have d1' : decide ((i : Int) < (F.len : Int)) = true := decide_eq_true (by omega)
      have d2 : ((i : Int) < (F.len : Int)) := by omega
      obtain ⟨vw, vp, Ak, ck, ks, g0, g1, g2, g3, hvw, hvp, hks, hkA, hkF, hRF⟩ := drop_fo HX.out.fo
      obtain ⟨ab, ao, rfl⟩ := src_spot HS.out (by omega) (by decide)
      have hadB := HA.out _ rfl
      have hsc := src_cells HS.out
      obtain ⟨Aw, cw, rfl, hws, hwB⟩ := hvw
      obtain ⟨Ap, cp, rfl, hps, hpB⟩ := hvp
      have HCEL := hide (show ∀ x, Below w.heap.size w x → NS ab (ao + i * 4) (.slice Aw ws.length cw) (.slice Ap ps.length cp) (.bool blk) (.slice Ak K.len ck) x from fun x hx =>
        ⟨cell_lo (a := ⟨ab, ao + i * 4, none⟩) hx hadB (hsc _ _ g0), cell_lo (a := ⟨ab, ao + i * 4 + 1, none⟩) hx hadB (by rw [Nat.add_assoc]; exact hsc _ _ g1), cell_lo (a := ⟨ab, ao + i * 4 + 2, none⟩) hx hadB (by rw [Nat.add_assoc]; exact hsc _ _ g2), cell_lo (a := ⟨ab, ao + i * 4 + 3, none⟩) hx hadB (by rw [Nat.add_assoc]; exact hsc _ _ g3)⟩)
      have HNS := hide (HCEL.out wr HX.out.bl)
      have HWS := hide (hws.below HX.out.bl)
      have HPS := hide (hps.below HX.out.bl)
      have hno : Fo.nodes (.cons ws ps blk K R) = K.nodes + R.nodes + 1 := rfl
      have HNO := hide (show K.nodes < n ∧ R.nodes ≤ F.nodes from by have h1 := HX.out.nodes; have h2 := HN.out; omega)
      have hszR : szF (.cons ws ps blk K R) = ws.length + ps.length + 1 + szF K + szF R := rfl
      have hszb : szF Fd + (ws.length + ps.length + 1 + szF K + szF R) ≤ szF F := by have h1 := HX.out.sz; omega
      have HSR := hide hszb
      have hdp := HX.out.dp
      rw [dpF, Bool.and_eq_true, Bool.and_eq_true] at hdp
      have hd60 := of_decide_eq_true hdp.1
      have HDP := hide hdp.2.2
      have hgg := HX.out.gd
      have hg1 := hgg.1
      have hg2 := hgg.2.1
      have HGR := hide hgg.2.2.2
      have hzz := HZ.out
      have hkl : K.len ≤ 1099511627776 := by have h1 := len_sz K; omega
      have hwl : ws.length ≤ 1099511627776 := by omega
      have hpl : ps.length ≤ 1099511627776 := by omega
      have hrl : (rowsF d Fd).length + 1 + (rowsF (d + 1) K).length ≤ 1099511627776 := by have h1 := rows_len Fd d; have h2 := rows_len K (d + 1); omega
      have HRCF := hide (fun (x : World) (hx : Below w.heap.size w x) => HIH.out K.nodes HNO.out.1 K rfl (d + 1) Ak ck ks D x (hks.below hx) (hkF.keep (fun q hq => hx.block q (HD.out q hq))) (fun q hq => Nat.lt_of_lt_of_le (HD.out q hq) hx.size) (fun a ha => Nat.lt_of_lt_of_le (HD.out _ (hkA a ha)) hx.size) (by omega) hgg.2.2.1 hdp.2.1 (by omega))
      have HRF := hide hRF
      have HLEN := hide hlen
      have hns : NS ab (ao + i * 4) (.slice Aw ws.length cw) (.slice Ap ps.length cp) (.bool blk) (.slice Ak K.len ck) wr.drew := ⟨HNS.out.c0, HNS.out.c1, HNS.out.c2, HNS.out.c3⟩
      have HNSD := hide hns
      have k0 := fun x => (pin_in hns x).c0
      have k1 := fun x => (pin_in hns x).c1
      have k2 := fun x => (pin_in hns x).c2
      have k3 := fun x => (pin_in hns x).c3
      have HB := hide (Below.refl wr.heap.size wr).drew
      clear hsc g0 g1 g2 g3 hks hkA hkF hRF hws hwB hps hpB hno hszR hszb hdp hgg hzz hns hlen hadB HIH
      go_wp2_with fail
      refine wp_region_tree (NS ab (ao + i * 4) (.slice Aw ws.length cw) (.slice Ap ps.length cp) (.bool blk) (.slice Ak K.len ck)) (fun k => ([23, 24] : List Nat).contains k) (.take [0, 1, 3, 4, 5, 6, 7, 10, 11, 12, 13, 14, 16, 17, 18, 19, 20] (.fork 2 (.fork 8 (.step 9 (.step 15 (.step 21 (.step 22 (.step 23 (.step 24 .done)))))) 9 (.step 8 (.step 15 (.step 21 (.step 22 (.step 23 (.step 24 .done))))))) 9 (.step 2 (.step 8 (.step 15 (.step 21 (.step 22 (.step 23 (.step 24 .done))))))))) (by kernel_rfl) (by kernel_rfl) (by kernel_rfl) (by kernel_rfl) (.take (.cons (.zero) (.cons (.succ (.zero)) (.cons (.succ (.succ (.succ (.zero)))) (.cons (.succ (.succ (.succ (.succ (.zero))))) (.cons (.succ (.succ (.succ (.succ (.succ (.zero)))))) (.cons (.succ (.succ (.succ (.succ (.succ (.succ (.zero))))))) (.cons (.succ (.succ (.succ (.succ (.succ (.succ (.succ (.zero)))))))) (.cons (.succ (.succ (.succ (.succ (.succ (.succ (.succ (.succ (.succ (.succ (.zero))))))))))) (.cons (.succ (.succ (.succ (.succ (.succ (.succ (.succ (.succ (.succ (.succ (.succ (.zero)))))))))))) (.cons (.succ (.succ (.succ (.succ (.succ (.succ (.succ (.succ (.succ (.succ (.succ (.succ (.zero))))))))))))) (.cons (.succ (.succ (.succ (.succ (.succ (.succ (.succ (.succ (.succ (.succ (.succ (.succ (.succ (.zero)))))))))))))) (.cons (.succ (.succ (.succ (.succ (.succ (.succ (.succ (.succ (.succ (.succ (.succ (.succ (.succ (.succ (.zero))))))))))))))) (.cons (.succ (.succ (.succ (.succ (.succ (.succ (.succ (.succ (.succ (.succ (.succ (.succ (.succ (.succ (.succ (.succ (.zero))))))))))))))))) (.cons (.succ (.succ (.succ (.succ (.succ (.succ (.succ (.succ (.succ (.succ (.succ (.succ (.succ (.succ (.succ (.succ (.succ (.zero)))))))))))))))))) (.cons (.succ (.succ (.succ (.succ (.succ (.succ (.succ (.succ (.succ (.succ (.succ (.succ (.succ (.succ (.succ (.succ (.succ (.succ (.zero))))))))))))))))))) (.cons (.succ (.succ (.succ (.succ (.succ (.succ (.succ (.succ (.succ (.succ (.succ (.succ (.succ (.succ (.succ (.succ (.succ (.succ (.succ (.zero)))))))))))))))))))) (.cons (.succ (.succ (.succ (.succ (.succ (.succ (.succ (.succ (.succ (.succ (.succ (.succ (.succ (.succ (.succ (.succ (.succ (.succ (.succ (.succ (.zero))))))))))))))))))))) .nil))))))))))))))))) (.fork (.succ (.succ (.zero))) rfl (.fork (.succ (.succ (.succ (.succ (.succ (.succ (.succ (.succ (.zero))))))))) rfl (.step (.succ (.succ (.succ (.succ (.succ (.succ (.succ (.succ (.succ (.zero)))))))))) rfl (.step (.succ (.succ (.succ (.succ (.succ (.succ (.succ (.succ (.succ (.succ (.succ (.succ (.succ (.succ (.succ (.zero)))))))))))))))) rfl (.step (.succ (.succ (.succ (.succ (.succ (.succ (.succ (.succ (.succ (.succ (.succ (.succ (.succ (.succ (.succ (.succ (.succ (.succ (.succ (.succ (.succ (.zero)))))))))))))))))))))) rfl (.step (.succ (.succ (.succ (.succ (.succ (.succ (.succ (.succ (.succ (.succ (.succ (.succ (.succ (.succ (.succ (.succ (.succ (.succ (.succ (.succ (.succ (.succ (.zero))))))))))))))))))))))) rfl (.step (.succ (.succ (.succ (.succ (.succ (.succ (.succ (.succ (.succ (.succ (.succ (.succ (.succ (.succ (.succ (.succ (.succ (.succ (.succ (.succ (.succ (.succ (.succ (.zero)))))))))))))))))))))))) rfl (.step (.succ (.succ (.succ (.succ (.succ (.succ (.succ (.succ (.succ (.succ (.succ (.succ (.succ (.succ (.succ (.succ (.succ (.succ (.succ (.succ (.succ (.succ (.succ (.succ (.zero))))))))))))))))))))))))) rfl .done)))))) (.succ (.succ (.succ (.succ (.succ (.succ (.succ (.succ (.succ (.zero)))))))))) rfl (.step (.succ (.succ (.succ (.succ (.succ (.succ (.succ (.succ (.zero))))))))) rfl (.step (.succ (.succ (.succ (.succ (.succ (.succ (.succ (.succ (.succ (.succ (.succ (.succ (.succ (.succ (.succ (.zero)))))))))))))))) rfl (.step (.succ (.succ (.succ (.succ (.succ (.succ (.succ (.succ (.succ (.succ (.succ (.succ (.succ (.succ (.succ (.succ (.succ (.succ (.succ (.succ (.succ (.zero)))))))))))))))))))))) rfl (.step (.succ (.succ (.succ (.succ (.succ (.succ (.succ (.succ (.succ (.succ (.succ (.succ (.succ (.succ (.succ (.succ (.succ (.succ (.succ (.succ (.succ (.succ (.zero))))))))))))))))))))))) rfl (.step (.succ (.succ (.succ (.succ (.succ (.succ (.succ (.succ (.succ (.succ (.succ (.succ (.succ (.succ (.succ (.succ (.succ (.succ (.succ (.succ (.succ (.succ (.succ (.zero)))))))))))))))))))))))) rfl (.step (.succ (.succ (.succ (.succ (.succ (.succ (.succ (.succ (.succ (.succ (.succ (.succ (.succ (.succ (.succ (.succ (.succ (.succ (.succ (.succ (.succ (.succ (.succ (.succ (.zero))))))))))))))))))))))))) rfl .done))))))) (.succ (.succ (.succ (.succ (.succ (.succ (.succ (.succ (.succ (.zero)))))))))) rfl (.step (.succ (.succ (.zero))) rfl (.step (.succ (.succ (.succ (.succ (.succ (.succ (.succ (.succ (.zero))))))))) rfl (.step (.succ (.succ (.succ (.succ (.succ (.succ (.succ (.succ (.succ (.succ (.succ (.succ (.succ (.succ (.succ (.zero)))))))))))))))) rfl (.step (.succ (.succ (.succ (.succ (.succ (.succ (.succ (.succ (.succ (.succ (.succ (.succ (.succ (.succ (.succ (.succ (.succ (.succ (.succ (.succ (.succ (.zero)))))))))))))))))))))) rfl (.step (.succ (.succ (.succ (.succ (.succ (.succ (.succ (.succ (.succ (.succ (.succ (.succ (.succ (.succ (.succ (.succ (.succ (.succ (.succ (.succ (.succ (.succ (.zero))))))))))))))))))))))) rfl (.step (.succ (.succ (.succ (.succ (.succ (.succ (.succ (.succ (.succ (.succ (.succ (.succ (.succ (.succ (.succ (.succ (.succ (.succ (.succ (.succ (.succ (.succ (.succ (.zero)))))))))))))))))))))))) rfl (.step (.succ (.succ (.succ (.succ (.succ (.succ (.succ (.succ (.succ (.succ (.succ (.succ (.succ (.succ (.succ (.succ (.succ (.succ (.succ (.succ (.succ (.succ (.succ (.succ (.zero))))))))))))))))))))))))) rfl .done))))))))) ?hQ ?hS ?_
      case hQ => exact fun _ _ _ _ _ h => h
      case hS => exact HNSD.out
      refine wpT_take ?_
      repeat (first | go_big_quiet_step ((fail)) | quiet_step ((fail)))
      refine wpQuiet_nil ?_
      generalize wr.drew = x0 at *
      refine wpT_fork ?_ ?_
      · refine wpT_step rfl ?_
        intro K1 hK1
        go_wp2_with fail
        have HBq := hide (HB.out.alloc HB.out.size (Obj.cells #[] 9))
        have HOW := hide (World.ownsRow_made (e := 9) (size := 1) (base := wr.heap.size) x0 #[] 0 HB.out.size (Nat.zero_le _) rfl)
        refine hK1.out _ _ (fun _ => pin_mem (HNS.out.below HBq.out)) ?_
        clear HB hK1; have HB := HBq; clear HBq
        generalize hb_bw : x0.heap.size = bw at *
        generalize x0.alloc (Obj.cells #[] 9) = x1 at *
        clear hb_bw
        refine wpT_fork ?_ ?_
        · refine wpT_step rfl ?_
          intro K1 hK1
          obtain ⟨sb, so, hsp⟩ := src_spot (HWS.out.below HB.out) hg1 (by decide)
          have HSC := hide (src_cells (by have := HWS.out.below HB.out; rw [hsp] at this; exact this))
          refine wp_append_lies _ (.tmp 17) (.tmp 22) 41 rfl wr.heap.size 9 si _ 1 16 Try.underlying41 sz0 sz ss sb2 rfl (by decide) _ 0 [] rfl HOW.out ⟨sb, so, none⟩ ws.length cw (ws.map Value.string) (by rw [← hsp]; rfl) (by simp) (fun j u hj => by rw [Addr.add_lit]; exact HSC.out j u hj) (fun u hu => by obtain ⟨q, _, rfl⟩ := List.mem_map.1 hu; rfl) (by omega) (by unfold maxLen; omega) (by omega) HB.out.size _ rfl ?_
          intro gw cgw x2 hown hgrow _ _
          simp only [Nat.zero_add, List.nil_append] at hown ⊢
          have HBq := hide (HB.out.grown hgrow HB.out.size (fun g e => (HOW.out.lt g e).1))
          have HOWq := hide hown; clear HOW; have HOW := HOWq; clear HOWq
          refine hK1.out _ _ (fun _ => pin_mem (HNS.out.below HBq.out)) ?_
          clear HB hK1 hown hgrow HSC; have HB := HBq; clear HBq hsp
          refine wpT_step rfl ?_
          intro K1 hK1
          go_wp2_with fail
          have HBq := hide (HB.out.alloc HB.out.size (Obj.cells #[] 24))
          have HOWq := hide (HOW.out.alloc (Obj.cells #[] 24)); clear HOW; have HOW := HOWq; clear HOWq
          have HOP := hide (World.ownsRow_made (e := 24) (size := 2) (base := wr.heap.size) x2 #[] 0 HB.out.size (Nat.zero_le _) rfl)
          refine hK1.out _ _ (fun _ => pin_mem (HNS.out.below HBq.out)) ?_
          clear HB hK1; have HB := HBq; clear HBq
          generalize hb_bp : x2.heap.size = bp at *
          generalize x2.alloc (Obj.cells #[] 24) = x3 at *
          clear hb_bp
          refine wpT_step rfl ?_
          intro K1 hK1
          obtain ⟨sb, so, hsp⟩ := src_spot (HPS.out.below HB.out) hg2 (by decide)
          have HSC := hide (src_cells (by have := HPS.out.below HB.out; rw [hsp] at this; exact this))
          refine wp_append_lies _ (.tmp 24) (.tmp 29) 42 rfl wr.heap.size 24 qi _ 2 16 Try.underlying42 qz0 qz qs qb rfl (by decide) _ 0 [] rfl HOP.out ⟨sb, so, none⟩ ps.length cp (posC ps) (by rw [← hsp]; rfl) (posC_len ps) (fun j u hj => by rw [Addr.add_lit]; exact HSC.out j u hj) (fun u hu => posC_one hu) (by omega) (by unfold maxLen; omega) (by omega) HB.out.size _ rfl ?_
          intro gp cgp x4 hown hgrow _ _
          simp only [Nat.zero_add, List.nil_append] at hown ⊢
          have HBq := hide (HB.out.grown hgrow HB.out.size (fun g e => (HOP.out.lt g e).1))
          have HOWq := hide (own_kept HOW.out hgrow (fun g e => own_types HOP.out HOW.out (by decide) g e)); clear HOW; have HOW := HOWq; clear HOWq
          have HOPq := hide hown; clear HOP; have HOP := HOPq; clear HOPq
          refine hK1.out _ _ (fun _ => pin_mem (HNS.out.below HBq.out)) ?_
          clear HB hK1 hown hgrow HSC; have HB := HBq; clear HBq hsp
          refine wpT_step rfl ?_
          intro K1 hK1
          go_wp2_with fail
          refine hK1.out _ _ (fun _ => pin_mem (HNS.out.below HB.out)) ?_
          clear hK1
          refine wpT_step rfl ?_
          intro K1 hK1
          go_wp2_with fail
          have HB5 := hide (HB.out.alloc HB.out.size (RowC d (.slice (some ⟨gw, 0, none⟩) ws.length cgw) (.slice (some ⟨gp, 0, none⟩) ps.length cgp) blk))
          refine hK1.out _ _ (fun _ => pin_mem (HNS.out.below HB5.out)) ?_
          clear hK1
          have HRN := hide (ro_one (w := wr) (d := d) blk HB.out.size HOW.out HOP.out)
          have HRO := hide (HX.out.ro.grow (grown_of_below HB5.out) (fun b e => by cases e))
          have HRW := hide (row_at (heap_new x4 (RowC d (.slice (some ⟨gw, 0, none⟩) ws.length cgw) (.slice (some ⟨gp, 0, none⟩) ps.length cgp) blk)))
          refine wpT_step rfl ?_
          intro K1 hK1
          refine wp_append_lies _ (.tmp 15) (.tmp 37) 49 rfl w.heap.size 62 ri _ 4 64 Try.underlying49 rz0 rz rss rb rfl (by decide) _ _ _ rfl HRO.out.own ⟨x4.heap.size, 0, none⟩ 1 1 [.int .i64 d, .slice (some ⟨gw, 0, none⟩) ws.length cgw, .slice (some ⟨gp, 0, none⟩) ps.length cgp, .bool blk] rfl rfl HRW.out ?ones (by omega) ?c63 ?cby ?cbase _ rfl ?_
          case ones => simp [Value.oneCell']
          case c63 => unfold maxLen; omega
          case cby => omega
          case cbase => exact Nat.le_trans HX.out.bl.size HB5.out.size
          intro gn cgn x6 hown hgrow hkk _
          have hap := Ro.app HRO.out HRN.out (fun g e => (HX.out.ro.own.lt g e).2) HX.out.bl.size hown hgrow (hkk.elim (fun h => .inl h.symm) (fun h => .inr (by rw [h]; rfl)))
          have HB6 := hide (below_lo HX.out.bl HB5.out HX.out.bl.size)
          have HB7 := hide (HB6.out.grown hgrow HB6.out.size (fun g e => (HRO.out.own.lt g e).1))
          have HAP := hide hap
          refine hK1.out _ _ (fun h => by cases h) ?_
          clear hK1 hown hgrow hkk hap
          refine wpT_step rfl ?_
          intro K1 hK1
          go_wp2_with fail
          refine hK1.out _ _ (fun h => by cases h) ?_
          clear hK1
          refine wpT_done ?_
          clear HB HOW HOP HB5 HRN HRO HRW HNS k0 k1 k2 k3 HB6
          have hcc := HCEL.out x6 HB7.out
          obtain ⟨-, -, -, m3⟩ := hcc
          have HREC := hide (HRCF.out x6 HB7.out)
          clear HRCF
          go_wp2_with fail
          refine HREC.out.mono ?_
          rintro e x7 ⟨hb7, vk, yk, BK, rfl, hk, hkn⟩
          have HRO7 := hide (HAP.out.grow (grown_of_below hb7) (fun b e => by cases e))
          have HB8 := hide (below_lo HB7.out hb7 HB7.out.size)
          have HK := hide hk
          have HXS := hide (show x6.heap.size ≤ x7.heap.size from hb7.size)
          clear hb7
          have hv6 : ∀ g, (Value.slice (some ⟨gn, 0, none⟩) ((rowsF d Fd).length + 1) cgn).ownBlock = some g → g < x6.heap.size := fun g e => (HAP.out.own.lt g e).2
          have hrw : rowsF d (Fd.app (.cons ws ps blk K .nil)) = rowsF d Fd ++ [⟨d, ws, ps, blk⟩] ++ rowsF (d + 1) K := by rw [rowsF_app, rowsF]; simp [rowsF]
          have HRW := hide hrw
          have HV6 := hide hv6
          clear hv6 hrw
          by_cases hKn : K = .nil
          · have hvk := hkn hKn
            subst hvk
            have HKN := hide hKn
            clear hk hkn HREC hKn
            go_wp2_with (at_builtin; go_must (refine wpList_append_own_none rfl (.tmp 39) (.tmp 47) 49 rfl w.heap.size 62 ri 4 Try.underlying49 rz0 _ _ _ rfl HRO7.out.own rfl ?_))
            have HF := hide (show RwL w x7 (.slice (some ⟨gn, 0, none⟩) ((rowsF d Fd).length + 1) cgn) d F (i + 1) (Fd.app (.cons ws ps blk K .nil)) R _ xs _ D from ⟨HB8.out, by rw [HRW.out, HKN.out]; simpa [rowsF] using HRO7.out, HRF.out, by have := HLEN.out; omega, by rw [Fo.len_app, HDL.out]; rfl, HNO.out.2, by rw [sz_app]; have h1 := HSR.out; show szF Fd + (ws.length + ps.length + 1 + szF K + 0) + szF R ≤ _; omega, HGR.out, HDP.out, by rw [app_cons]; exact HX.out.eq, fun h => by cases Fd <;> cases h⟩)
            go_wp2_with fail
            go_roundw
            case rel => exact ⟨i + 1, _, R, _, _, by go_num, HF.out⟩
            case measure => have := HLEN.out; simp [intOf]; omega
          · have hkl1 : 1 ≤ (rowsF (d + 1) K).length := by
              cases K with
              | nil => exact absurd rfl hKn
              | cons a b e f g => simp [rowsF]
            obtain ⟨gk, ckk, hvk, hgk1, hgk2⟩ := own_some hk.own hkl1
            subst hvk
            have HSK := hide (own_cells hk.own)
            clear hk hkn HREC hKn hgk1 hgk2
            go_wp2_with (at_builtin; go_must (refine wpList_append_own_at _ rfl (.tmp 39) (.tmp 47) 49 rfl w.heap.size 62 ri _ 4 64 Try.underlying49 rz0 rz rss rb rfl (by decide) _ _ _ rfl HRO7.out.own ⟨gk, 0, none⟩ (rowsF (d + 1) K).length ckk yk rfl HK.out.own.1 HSK.out HK.out.rw'.one ?c63 ?cby ?cbase ?_))
            case c63 => rw [List.length_append]; unfold maxLen; simp; omega
            case cby => rw [List.length_append]; simp; omega
            case cbase => exact HB8.out.size
            intro v8 w8 hown hgr _ hk8
            have hap := Ro.app HRO7.out HK.out HV6.out HB7.out.size (by rw [List.length_append, List.append_assoc]; exact hown) hgr hk8
            have HF := hide (show RwL w w8 v8 d F (i + 1) (Fd.app (.cons ws ps blk K .nil)) R _ xs _ D from ⟨HB8.out.grown hgr HB8.out.size (fun g e => (HRO7.out.own.lt g e).1), by rw [HRW.out]; exact hap, HRF.out, by have := HLEN.out; omega, by rw [Fo.len_app, HDL.out]; rfl, HNO.out.2, by rw [sz_app]; have h1 := HSR.out; show szF Fd + (ws.length + ps.length + 1 + szF K + 0) + szF R ≤ _; omega, HGR.out, HDP.out, by rw [app_cons]; exact HX.out.eq, fun h => by cases Fd <;> cases h⟩)
            clear hown hgr hk8 hap
            go_wp2_with fail
            go_roundw
            case rel => exact ⟨i + 1, _, R, _, _, by go_num, HF.out⟩
            case measure => have := HLEN.out; simp [intOf]; omega
        · refine wpT_step rfl ?_
          intro K1 hK1
          go_wp2_with fail
          have HBq := hide (HB.out.alloc HB.out.size (Obj.cells #[] 24))
          have HOWq := hide (HOW.out.alloc (Obj.cells #[] 24)); clear HOW; have HOW := HOWq; clear HOWq
          have HOP := hide (World.ownsRow_made (e := 24) (size := 2) (base := wr.heap.size) x1 #[] 0 HB.out.size (Nat.zero_le _) rfl)
          refine hK1.out _ _ (fun _ => pin_mem (HNS.out.below HBq.out)) ?_
          clear HB hK1; have HB := HBq; clear HBq
          generalize hb_bp : x1.heap.size = bp at *
          generalize x1.alloc (Obj.cells #[] 24) = x2 at *
          clear hb_bp
          refine wpT_step rfl ?_
          intro K1 hK1
          obtain ⟨sb, so, hsp⟩ := src_spot (HWS.out.below HB.out) hg1 (by decide)
          have HSC := hide (src_cells (by have := HWS.out.below HB.out; rw [hsp] at this; exact this))
          refine wp_append_lies _ (.tmp 17) (.tmp 22) 41 rfl wr.heap.size 9 si _ 1 16 Try.underlying41 sz0 sz ss sb2 rfl (by decide) _ 0 [] rfl HOW.out ⟨sb, so, none⟩ ws.length cw (ws.map Value.string) (by rw [← hsp]; rfl) (by simp) (fun j u hj => by rw [Addr.add_lit]; exact HSC.out j u hj) (fun u hu => by obtain ⟨q, _, rfl⟩ := List.mem_map.1 hu; rfl) (by omega) (by unfold maxLen; omega) (by omega) HB.out.size _ rfl ?_
          intro gw cgw x3 hown hgrow _ _
          simp only [Nat.zero_add, List.nil_append] at hown ⊢
          have HBq := hide (HB.out.grown hgrow HB.out.size (fun g e => (HOW.out.lt g e).1))
          have HOPq := hide (own_kept HOP.out hgrow (fun g e => own_types HOW.out HOP.out (by decide) g e)); clear HOP; have HOP := HOPq; clear HOPq
          have HOWq := hide hown; clear HOW; have HOW := HOWq; clear HOWq
          refine hK1.out _ _ (fun _ => pin_mem (HNS.out.below HBq.out)) ?_
          clear HB hK1 hown hgrow HSC; have HB := HBq; clear HBq hsp
          refine wpT_step rfl ?_
          intro K1 hK1
          obtain ⟨sb, so, hsp⟩ := src_spot (HPS.out.below HB.out) hg2 (by decide)
          have HSC := hide (src_cells (by have := HPS.out.below HB.out; rw [hsp] at this; exact this))
          refine wp_append_lies _ (.tmp 24) (.tmp 29) 42 rfl wr.heap.size 24 qi _ 2 16 Try.underlying42 qz0 qz qs qb rfl (by decide) _ 0 [] rfl HOP.out ⟨sb, so, none⟩ ps.length cp (posC ps) (by rw [← hsp]; rfl) (posC_len ps) (fun j u hj => by rw [Addr.add_lit]; exact HSC.out j u hj) (fun u hu => posC_one hu) (by omega) (by unfold maxLen; omega) (by omega) HB.out.size _ rfl ?_
          intro gp cgp x4 hown hgrow _ _
          simp only [Nat.zero_add, List.nil_append] at hown ⊢
          have HBq := hide (HB.out.grown hgrow HB.out.size (fun g e => (HOP.out.lt g e).1))
          have HOWq := hide (own_kept HOW.out hgrow (fun g e => own_types HOP.out HOW.out (by decide) g e)); clear HOW; have HOW := HOWq; clear HOWq
          have HOPq := hide hown; clear HOP; have HOP := HOPq; clear HOPq
          refine hK1.out _ _ (fun _ => pin_mem (HNS.out.below HBq.out)) ?_
          clear HB hK1 hown hgrow HSC; have HB := HBq; clear HBq hsp
          refine wpT_step rfl ?_
          intro K1 hK1
          go_wp2_with fail
          refine hK1.out _ _ (fun _ => pin_mem (HNS.out.below HB.out)) ?_
          clear hK1
          refine wpT_step rfl ?_
          intro K1 hK1
          go_wp2_with fail
          have HB5 := hide (HB.out.alloc HB.out.size (RowC d (.slice (some ⟨gw, 0, none⟩) ws.length cgw) (.slice (some ⟨gp, 0, none⟩) ps.length cgp) blk))
          refine hK1.out _ _ (fun _ => pin_mem (HNS.out.below HB5.out)) ?_
          clear hK1
          have HRN := hide (ro_one (w := wr) (d := d) blk HB.out.size HOW.out HOP.out)
          have HRO := hide (HX.out.ro.grow (grown_of_below HB5.out) (fun b e => by cases e))
          have HRW := hide (row_at (heap_new x4 (RowC d (.slice (some ⟨gw, 0, none⟩) ws.length cgw) (.slice (some ⟨gp, 0, none⟩) ps.length cgp) blk)))
          refine wpT_step rfl ?_
          intro K1 hK1
          refine wp_append_lies _ (.tmp 15) (.tmp 37) 49 rfl w.heap.size 62 ri _ 4 64 Try.underlying49 rz0 rz rss rb rfl (by decide) _ _ _ rfl HRO.out.own ⟨x4.heap.size, 0, none⟩ 1 1 [.int .i64 d, .slice (some ⟨gw, 0, none⟩) ws.length cgw, .slice (some ⟨gp, 0, none⟩) ps.length cgp, .bool blk] rfl rfl HRW.out ?ones (by omega) ?c63 ?cby ?cbase _ rfl ?_
          case ones => simp [Value.oneCell']
          case c63 => unfold maxLen; omega
          case cby => omega
          case cbase => exact Nat.le_trans HX.out.bl.size HB5.out.size
          intro gn cgn x6 hown hgrow hkk _
          have hap := Ro.app HRO.out HRN.out (fun g e => (HX.out.ro.own.lt g e).2) HX.out.bl.size hown hgrow (hkk.elim (fun h => .inl h.symm) (fun h => .inr (by rw [h]; rfl)))
          have HB6 := hide (below_lo HX.out.bl HB5.out HX.out.bl.size)
          have HB7 := hide (HB6.out.grown hgrow HB6.out.size (fun g e => (HRO.out.own.lt g e).1))
          have HAP := hide hap
          refine hK1.out _ _ (fun h => by cases h) ?_
          clear hK1 hown hgrow hkk hap
          refine wpT_step rfl ?_
          intro K1 hK1
          go_wp2_with fail
          refine hK1.out _ _ (fun h => by cases h) ?_
          clear hK1
          refine wpT_done ?_
          clear HB HOW HOP HB5 HRN HRO HRW HNS k0 k1 k2 k3 HB6
          have hcc := HCEL.out x6 HB7.out
          obtain ⟨-, -, -, m3⟩ := hcc
          have HREC := hide (HRCF.out x6 HB7.out)
          clear HRCF
          go_wp2_with fail
          refine HREC.out.mono ?_
          rintro e x7 ⟨hb7, vk, yk, BK, rfl, hk, hkn⟩
          have HRO7 := hide (HAP.out.grow (grown_of_below hb7) (fun b e => by cases e))
          have HB8 := hide (below_lo HB7.out hb7 HB7.out.size)
          have HK := hide hk
          have HXS := hide (show x6.heap.size ≤ x7.heap.size from hb7.size)
          clear hb7
          have hv6 : ∀ g, (Value.slice (some ⟨gn, 0, none⟩) ((rowsF d Fd).length + 1) cgn).ownBlock = some g → g < x6.heap.size := fun g e => (HAP.out.own.lt g e).2
          have hrw : rowsF d (Fd.app (.cons ws ps blk K .nil)) = rowsF d Fd ++ [⟨d, ws, ps, blk⟩] ++ rowsF (d + 1) K := by rw [rowsF_app, rowsF]; simp [rowsF]
          have HRW := hide hrw
          have HV6 := hide hv6
          clear hv6 hrw
          by_cases hKn : K = .nil
          · have hvk := hkn hKn
            subst hvk
            have HKN := hide hKn
            clear hk hkn HREC hKn
            go_wp2_with (at_builtin; go_must (refine wpList_append_own_none rfl (.tmp 39) (.tmp 47) 49 rfl w.heap.size 62 ri 4 Try.underlying49 rz0 _ _ _ rfl HRO7.out.own rfl ?_))
            have HF := hide (show RwL w x7 (.slice (some ⟨gn, 0, none⟩) ((rowsF d Fd).length + 1) cgn) d F (i + 1) (Fd.app (.cons ws ps blk K .nil)) R _ xs _ D from ⟨HB8.out, by rw [HRW.out, HKN.out]; simpa [rowsF] using HRO7.out, HRF.out, by have := HLEN.out; omega, by rw [Fo.len_app, HDL.out]; rfl, HNO.out.2, by rw [sz_app]; have h1 := HSR.out; show szF Fd + (ws.length + ps.length + 1 + szF K + 0) + szF R ≤ _; omega, HGR.out, HDP.out, by rw [app_cons]; exact HX.out.eq, fun h => by cases Fd <;> cases h⟩)
            go_wp2_with fail
            go_roundw
            case rel => exact ⟨i + 1, _, R, _, _, by go_num, HF.out⟩
            case measure => have := HLEN.out; simp [intOf]; omega
          · have hkl1 : 1 ≤ (rowsF (d + 1) K).length := by
              cases K with
              | nil => exact absurd rfl hKn
              | cons a b e f g => simp [rowsF]
            obtain ⟨gk, ckk, hvk, hgk1, hgk2⟩ := own_some hk.own hkl1
            subst hvk
            have HSK := hide (own_cells hk.own)
            clear hk hkn HREC hKn hgk1 hgk2
            go_wp2_with (at_builtin; go_must (refine wpList_append_own_at _ rfl (.tmp 39) (.tmp 47) 49 rfl w.heap.size 62 ri _ 4 64 Try.underlying49 rz0 rz rss rb rfl (by decide) _ _ _ rfl HRO7.out.own ⟨gk, 0, none⟩ (rowsF (d + 1) K).length ckk yk rfl HK.out.own.1 HSK.out HK.out.rw'.one ?c63 ?cby ?cbase ?_))
            case c63 => rw [List.length_append]; unfold maxLen; simp; omega
            case cby => rw [List.length_append]; simp; omega
            case cbase => exact HB8.out.size
            intro v8 w8 hown hgr _ hk8
            have hap := Ro.app HRO7.out HK.out HV6.out HB7.out.size (by rw [List.length_append, List.append_assoc]; exact hown) hgr hk8
            have HF := hide (show RwL w w8 v8 d F (i + 1) (Fd.app (.cons ws ps blk K .nil)) R _ xs _ D from ⟨HB8.out.grown hgr HB8.out.size (fun g e => (HRO7.out.own.lt g e).1), by rw [HRW.out]; exact hap, HRF.out, by have := HLEN.out; omega, by rw [Fo.len_app, HDL.out]; rfl, HNO.out.2, by rw [sz_app]; have h1 := HSR.out; show szF Fd + (ws.length + ps.length + 1 + szF K + 0) + szF R ≤ _; omega, HGR.out, HDP.out, by rw [app_cons]; exact HX.out.eq, fun h => by cases Fd <;> cases h⟩)
            clear hown hgr hk8 hap
            go_wp2_with fail
            go_roundw
            case rel => exact ⟨i + 1, _, R, _, _, by go_num, HF.out⟩
            case measure => have := HLEN.out; simp [intOf]; omega
      · refine wpT_step rfl ?_
        intro K1 hK1
        go_wp2_with fail
        have HBq := hide (HB.out.alloc HB.out.size (Obj.cells #[] 24))
        have HOP := hide (World.ownsRow_made (e := 24) (size := 2) (base := wr.heap.size) x0 #[] 0 HB.out.size (Nat.zero_le _) rfl)
        refine hK1.out _ _ (fun _ => pin_mem (HNS.out.below HBq.out)) ?_
        clear HB hK1; have HB := HBq; clear HBq
        generalize hb_bp : x0.heap.size = bp at *
        generalize x0.alloc (Obj.cells #[] 24) = x1 at *
        clear hb_bp
        refine wpT_step rfl ?_
        intro K1 hK1
        go_wp2_with fail
        have HBq := hide (HB.out.alloc HB.out.size (Obj.cells #[] 9))
        have HOPq := hide (HOP.out.alloc (Obj.cells #[] 9)); clear HOP; have HOP := HOPq; clear HOPq
        have HOW := hide (World.ownsRow_made (e := 9) (size := 1) (base := wr.heap.size) x1 #[] 0 HB.out.size (Nat.zero_le _) rfl)
        refine hK1.out _ _ (fun _ => pin_mem (HNS.out.below HBq.out)) ?_
        clear HB hK1; have HB := HBq; clear HBq
        generalize hb_bw : x1.heap.size = bw at *
        generalize x1.alloc (Obj.cells #[] 9) = x2 at *
        clear hb_bw
        refine wpT_step rfl ?_
        intro K1 hK1
        obtain ⟨sb, so, hsp⟩ := src_spot (HWS.out.below HB.out) hg1 (by decide)
        have HSC := hide (src_cells (by have := HWS.out.below HB.out; rw [hsp] at this; exact this))
        refine wp_append_lies _ (.tmp 17) (.tmp 22) 41 rfl wr.heap.size 9 si _ 1 16 Try.underlying41 sz0 sz ss sb2 rfl (by decide) _ 0 [] rfl HOW.out ⟨sb, so, none⟩ ws.length cw (ws.map Value.string) (by rw [← hsp]; rfl) (by simp) (fun j u hj => by rw [Addr.add_lit]; exact HSC.out j u hj) (fun u hu => by obtain ⟨q, _, rfl⟩ := List.mem_map.1 hu; rfl) (by omega) (by unfold maxLen; omega) (by omega) HB.out.size _ rfl ?_
        intro gw cgw x3 hown hgrow _ _
        simp only [Nat.zero_add, List.nil_append] at hown ⊢
        have HBq := hide (HB.out.grown hgrow HB.out.size (fun g e => (HOW.out.lt g e).1))
        have HOPq := hide (own_kept HOP.out hgrow (fun g e => own_types HOW.out HOP.out (by decide) g e)); clear HOP; have HOP := HOPq; clear HOPq
        have HOWq := hide hown; clear HOW; have HOW := HOWq; clear HOWq
        refine hK1.out _ _ (fun _ => pin_mem (HNS.out.below HBq.out)) ?_
        clear HB hK1 hown hgrow HSC; have HB := HBq; clear HBq hsp
        refine wpT_step rfl ?_
        intro K1 hK1
        obtain ⟨sb, so, hsp⟩ := src_spot (HPS.out.below HB.out) hg2 (by decide)
        have HSC := hide (src_cells (by have := HPS.out.below HB.out; rw [hsp] at this; exact this))
        refine wp_append_lies _ (.tmp 24) (.tmp 29) 42 rfl wr.heap.size 24 qi _ 2 16 Try.underlying42 qz0 qz qs qb rfl (by decide) _ 0 [] rfl HOP.out ⟨sb, so, none⟩ ps.length cp (posC ps) (by rw [← hsp]; rfl) (posC_len ps) (fun j u hj => by rw [Addr.add_lit]; exact HSC.out j u hj) (fun u hu => posC_one hu) (by omega) (by unfold maxLen; omega) (by omega) HB.out.size _ rfl ?_
        intro gp cgp x4 hown hgrow _ _
        simp only [Nat.zero_add, List.nil_append] at hown ⊢
        have HBq := hide (HB.out.grown hgrow HB.out.size (fun g e => (HOP.out.lt g e).1))
        have HOWq := hide (own_kept HOW.out hgrow (fun g e => own_types HOP.out HOW.out (by decide) g e)); clear HOW; have HOW := HOWq; clear HOWq
        have HOPq := hide hown; clear HOP; have HOP := HOPq; clear HOPq
        refine hK1.out _ _ (fun _ => pin_mem (HNS.out.below HBq.out)) ?_
        clear HB hK1 hown hgrow HSC; have HB := HBq; clear HBq hsp
        refine wpT_step rfl ?_
        intro K1 hK1
        go_wp2_with fail
        refine hK1.out _ _ (fun _ => pin_mem (HNS.out.below HB.out)) ?_
        clear hK1
        refine wpT_step rfl ?_
        intro K1 hK1
        go_wp2_with fail
        have HB5 := hide (HB.out.alloc HB.out.size (RowC d (.slice (some ⟨gw, 0, none⟩) ws.length cgw) (.slice (some ⟨gp, 0, none⟩) ps.length cgp) blk))
        refine hK1.out _ _ (fun _ => pin_mem (HNS.out.below HB5.out)) ?_
        clear hK1
        have HRN := hide (ro_one (w := wr) (d := d) blk HB.out.size HOW.out HOP.out)
        have HRO := hide (HX.out.ro.grow (grown_of_below HB5.out) (fun b e => by cases e))
        have HRW := hide (row_at (heap_new x4 (RowC d (.slice (some ⟨gw, 0, none⟩) ws.length cgw) (.slice (some ⟨gp, 0, none⟩) ps.length cgp) blk)))
        refine wpT_step rfl ?_
        intro K1 hK1
        refine wp_append_lies _ (.tmp 15) (.tmp 37) 49 rfl w.heap.size 62 ri _ 4 64 Try.underlying49 rz0 rz rss rb rfl (by decide) _ _ _ rfl HRO.out.own ⟨x4.heap.size, 0, none⟩ 1 1 [.int .i64 d, .slice (some ⟨gw, 0, none⟩) ws.length cgw, .slice (some ⟨gp, 0, none⟩) ps.length cgp, .bool blk] rfl rfl HRW.out ?ones (by omega) ?c63 ?cby ?cbase _ rfl ?_
        case ones => simp [Value.oneCell']
        case c63 => unfold maxLen; omega
        case cby => omega
        case cbase => exact Nat.le_trans HX.out.bl.size HB5.out.size
        intro gn cgn x6 hown hgrow hkk _
        have hap := Ro.app HRO.out HRN.out (fun g e => (HX.out.ro.own.lt g e).2) HX.out.bl.size hown hgrow (hkk.elim (fun h => .inl h.symm) (fun h => .inr (by rw [h]; rfl)))
        have HB6 := hide (below_lo HX.out.bl HB5.out HX.out.bl.size)
        have HB7 := hide (HB6.out.grown hgrow HB6.out.size (fun g e => (HRO.out.own.lt g e).1))
        have HAP := hide hap
        refine hK1.out _ _ (fun h => by cases h) ?_
        clear hK1 hown hgrow hkk hap
        refine wpT_step rfl ?_
        intro K1 hK1
        go_wp2_with fail
        refine hK1.out _ _ (fun h => by cases h) ?_
        clear hK1
        refine wpT_done ?_
        clear HB HOW HOP HB5 HRN HRO HRW HNS k0 k1 k2 k3 HB6
        have hcc := HCEL.out x6 HB7.out
        obtain ⟨-, -, -, m3⟩ := hcc
        have HREC := hide (HRCF.out x6 HB7.out)
        clear HRCF
        go_wp2_with fail
        refine HREC.out.mono ?_
        rintro e x7 ⟨hb7, vk, yk, BK, rfl, hk, hkn⟩
        have HRO7 := hide (HAP.out.grow (grown_of_below hb7) (fun b e => by cases e))
        have HB8 := hide (below_lo HB7.out hb7 HB7.out.size)
        have HK := hide hk
        have HXS := hide (show x6.heap.size ≤ x7.heap.size from hb7.size)
        clear hb7
        have hv6 : ∀ g, (Value.slice (some ⟨gn, 0, none⟩) ((rowsF d Fd).length + 1) cgn).ownBlock = some g → g < x6.heap.size := fun g e => (HAP.out.own.lt g e).2
        have hrw : rowsF d (Fd.app (.cons ws ps blk K .nil)) = rowsF d Fd ++ [⟨d, ws, ps, blk⟩] ++ rowsF (d + 1) K := by rw [rowsF_app, rowsF]; simp [rowsF]
        have HRW := hide hrw
        have HV6 := hide hv6
        clear hv6 hrw
        by_cases hKn : K = .nil
        · have hvk := hkn hKn
          subst hvk
          have HKN := hide hKn
          clear hk hkn HREC hKn
          go_wp2_with (at_builtin; go_must (refine wpList_append_own_none rfl (.tmp 39) (.tmp 47) 49 rfl w.heap.size 62 ri 4 Try.underlying49 rz0 _ _ _ rfl HRO7.out.own rfl ?_))
          have HF := hide (show RwL w x7 (.slice (some ⟨gn, 0, none⟩) ((rowsF d Fd).length + 1) cgn) d F (i + 1) (Fd.app (.cons ws ps blk K .nil)) R _ xs _ D from ⟨HB8.out, by rw [HRW.out, HKN.out]; simpa [rowsF] using HRO7.out, HRF.out, by have := HLEN.out; omega, by rw [Fo.len_app, HDL.out]; rfl, HNO.out.2, by rw [sz_app]; have h1 := HSR.out; show szF Fd + (ws.length + ps.length + 1 + szF K + 0) + szF R ≤ _; omega, HGR.out, HDP.out, by rw [app_cons]; exact HX.out.eq, fun h => by cases Fd <;> cases h⟩)
          go_wp2_with fail
          go_roundw
          case rel => exact ⟨i + 1, _, R, _, _, by go_num, HF.out⟩
          case measure => have := HLEN.out; simp [intOf]; omega
        · have hkl1 : 1 ≤ (rowsF (d + 1) K).length := by
            cases K with
            | nil => exact absurd rfl hKn
            | cons a b e f g => simp [rowsF]
          obtain ⟨gk, ckk, hvk, hgk1, hgk2⟩ := own_some hk.own hkl1
          subst hvk
          have HSK := hide (own_cells hk.own)
          clear hk hkn HREC hKn hgk1 hgk2
          go_wp2_with (at_builtin; go_must (refine wpList_append_own_at _ rfl (.tmp 39) (.tmp 47) 49 rfl w.heap.size 62 ri _ 4 64 Try.underlying49 rz0 rz rss rb rfl (by decide) _ _ _ rfl HRO7.out.own ⟨gk, 0, none⟩ (rowsF (d + 1) K).length ckk yk rfl HK.out.own.1 HSK.out HK.out.rw'.one ?c63 ?cby ?cbase ?_))
          case c63 => rw [List.length_append]; unfold maxLen; simp; omega
          case cby => rw [List.length_append]; simp; omega
          case cbase => exact HB8.out.size
          intro v8 w8 hown hgr _ hk8
          have hap := Ro.app HRO7.out HK.out HV6.out HB7.out.size (by rw [List.length_append, List.append_assoc]; exact hown) hgr hk8
          have HF := hide (show RwL w w8 v8 d F (i + 1) (Fd.app (.cons ws ps blk K .nil)) R _ xs _ D from ⟨HB8.out.grown hgr HB8.out.size (fun g e => (HRO7.out.own.lt g e).1), by rw [HRW.out]; exact hap, HRF.out, by have := HLEN.out; omega, by rw [Fo.len_app, HDL.out]; rfl, HNO.out.2, by rw [sz_app]; have h1 := HSR.out; show szF Fd + (ws.length + ps.length + 1 + szF K + 0) + szF R ≤ _; omega, HGR.out, HDP.out, by rw [app_cons]; exact HX.out.eq, fun h => by cases Fd <;> cases h⟩)
          clear hown hgr hk8 hap
          go_wp2_with fail
          go_roundw
          case rel => exact ⟨i + 1, _, R, _, _, by go_num, HF.out⟩
          case measure => have := HLEN.out; simp [intOf]; omega
end Go.Proofs.Ytihmmmodimionaa.Tr
/- tree.Same, walked: it tells whether statements are the same, places aside. -/
namespace Go.Proofs.Ytihmmmodimionaa.Tr
open Go.RowKit Go.Proofs.Ytihmmmodimionaa Go.Proofs.Ytihmmmodimionaa.Lx

def sameF : Fo → Fo → Bool
  | .nil, .nil => true
  | .cons ws _ b K R, .cons us _ c L S => ((b == c) && (decide (ws = us) && sameF K L)) && sameF R S
  | .nil, .cons _ _ _ _ _ => false
  | .cons _ _ _ _ _, .nil => false
theorem sameF_len : ∀ {F G : Fo}, F.len ≠ G.len → sameF F G = false
  | .nil, .nil, h => absurd rfl h
  | .nil, .cons _ _ _ _ _, _ => rfl
  | .cons _ _ _ _ _, .nil, _ => rfl
  | .cons ws _ b K R, .cons us _ c L S, h => by
    rw [sameF, sameF_len (F := R) (G := S) (fun e => h (by simp [Fo.len, e]))]
    simp
theorem sameF_refl : ∀ F : Fo, sameF F F = true
  | .nil => rfl
  | .cons ws _ b K R => by rw [sameF, sameF_refl K, sameF_refl R]; simp
abbrev SmO (v : Bool) (w : World) (e : Ending) (w' : World) : Prop := e = .returned (.bool v) ∧ Below w.heap.size w w'
set_option maxHeartbeats 2000000 in
set_option maxRecDepth 100000 in
theorem same1_walk (ws us : List ByteArray) (K L : Fo) (Aw Bw Ak Bk : Option Addr) (cw dw ck dk : Nat) (vp vq : Value) (b b' : Bool) (w : World) (hws : Src w Aw ws.length cw 1 (ws.map Value.string)) (hus : Src w Bw us.length dw 1 (us.map Value.string)) (hl1 : ws.length ≤ 1099511627776) (hl2 : us.length ≤ 1099511627776)
    (HREC : Hid (∀ x, Below w.heap.size w x → Calls Try.prog 23 #[.slice Ak K.len ck, .slice Bk L.len dk] x (SmO (sameF K L) x))) :
    Calls Try.prog 48 #[.agg #[.slice Aw ws.length cw, vp, .bool b, .slice Ak K.len ck], .agg #[.slice Bw us.length dw, vq, .bool b', .slice Bk L.len dk]] w (SmO ((b == b') && (decide (ws = us) && sameF K L)) w) := by
  have hb2 := bel_two w (NodeC (.slice Aw ws.length cw) vp b (.slice Ak K.len ck)) (NodeC (.slice Bw us.length dw) vq b' (.slice Bk L.len dk))
  have h1 := heap_old (p := NodeC (.slice Bw us.length dw) vq b' (.slice Bk L.len dk)) (heap_new w (NodeC (.slice Aw ws.length cw) vp b (.slice Ak K.len ck)))
  have h2 : ((w.alloc (NodeC (.slice Aw ws.length cw) vp b (.slice Ak K.len ck))).alloc (NodeC (.slice Bw us.length dw) vq b' (.slice Bk L.len dk))).heap[w.heap.size + 1]? = some (NodeC (.slice Bw us.length dw) vq b' (.slice Bk L.len dk)) := by
    have := heap_new (w.alloc (NodeC (.slice Aw ws.length cw) vp b (.slice Ak K.len ck))) (NodeC (.slice Bw us.length dw) vq b' (.slice Bk L.len dk))
    rwa [World.size_alloc] at this
  have n0 := cell_heap (j := 0) h1 rfl
  have n2 := cell_heap (j := 2) h1 rfl
  have n3 := cell_heap (j := 3) h1 rfl
  have m0 := cell_heap (j := 0) h2 rfl
  have m2 := cell_heap (j := 2) h2 rfl
  have m3 := cell_heap (j := 3) h2 rfl
  have HEQ := hide (eq_str ws us _ (hws.below hb2) (hus.below hb2) hl1 hl2)
  have HH1 := hide h1
  have HH2 := hide h2
  have HB2 := hide hb2
  clear h1 h2 hb2 hws hus
  cases hbb : (b == b') with
  | false =>
    have hbv : (b == b') = false := hbb
    go_enter Try.func48, Try.ntmps48
    go_wp2_with fail
    go_ret
    exact ⟨rfl, HB2.out⟩
  | true =>
    have hbv : (b == b') = true := hbb
    clear hbb
    by_cases hwu : ws = us
    · rw [decide_eq_true hwu] at HEQ ⊢
      clear hwu
      go_enter Try.func48, Try.ntmps48
      go_wp2_with fail
      refine HEQ.out.mono ?_
      rintro e x2 ⟨rfl, hb3⟩
      have HB3 := hide (below_wide HB2.out hb3)
      have k3 := cell_heap (j := 3) (heapB hb3 HH1.out) rfl
      have l3 := cell_heap (j := 3) (heapB hb3 HH2.out) rfl
      clear hb3 n0 n2 n3 m0 m2 m3 HEQ
      go_wp2_with fail
      refine (HREC.out _ HB3.out).mono ?_
      rintro e x3 ⟨rfl, hb4⟩
      have HB4 := hide (below_wide HB3.out hb4)
      clear hb4
      go_wp2_with fail
      go_ret
      exact ⟨by simp, HB4.out⟩
    · rw [decide_eq_false hwu] at HEQ ⊢
      clear hwu
      go_enter Try.func48, Try.ntmps48
      go_wp2_with fail
      refine HEQ.out.mono ?_
      rintro e x2 ⟨rfl, hb3⟩
      have HB3 := hide (below_wide HB2.out hb3)
      clear hb3 n0 n2 n3 m0 m2 m3 HEQ
      go_wp2_with fail
      go_ret
      exact ⟨by simp, HB3.out⟩
structure EqL (w wr : World) (F G : Fo) (i : Nat) (R S : Fo) (xs ys : List Value) (D E : Nat → Prop) : Prop where
  bl : Below w.heap.size w wr
  fo : FoV w D R (xs.drop (i * 4))
  go : FoV w E S (ys.drop (i * 4))
  len : i + R.len = F.len
  leg : i + S.len = G.len
  eq : sameF F G = sameF R S
  sz : szF R ≤ szF F ∧ szF S ≤ szF G
  no : R.nodes ≤ F.nodes
set_option maxHeartbeats 4000000 in
set_option maxRecDepth 100000 in
theorem tsame_any : ∀ (n : Nat) (F : Fo), F.nodes = n → ∀ (G : Fo) (A B : Option Addr) (c d : Nat) (xs ys : List Value) (D E : Nat → Prop) (w : World), Src w A F.len c 4 xs → FoV w D F xs → Src w B G.len d 4 ys → FoV w E G ys → (∀ a, A = some a → a.block < w.heap.size) → (∀ a, B = some a → a.block < w.heap.size) → (∀ q, D q → q < w.heap.size) → (∀ q, E q → q < w.heap.size) → szF F ≤ 1099511627776 → szF G ≤ 1099511627776 →
    Calls Try.prog 23 #[.slice A F.len c, .slice B G.len d] w (SmO (sameF F G) w) := by
  intro n
  induction n using Nat.strongRecOn with
  | _ n ih =>
  intro F hn G A B c d xs ys D E w hs hf ht hg hA hB hD hE hz hy
  have HIH := hide ih
  have HS := hide hs
  have HT := hide ht
  have HA := hide hA
  have HB := hide hB
  have HD := hide hD
  have HE := hide hE
  have HZ := hide (And.intro hz hy)
  have HN := hide hn
  have hfl : F.len ≤ 1099511627776 := Nat.le_trans (len_sz F) hz
  have hgl : G.len ≤ 1099511627776 := Nat.le_trans (len_sz G) hy
  have H0 := hide (show EqL w w F G 0 F G xs ys D E from ⟨Below.refl _ _, by simpa using hf, by simpa using hg, by simp, by simp, rfl, ⟨Nat.le_refl _, Nat.le_refl _⟩, Nat.le_refl _⟩)
  clear hs hf ht hg hA hB hD hE hz hy ih hn
  have HQ : Hid (Calls Try.prog 47 #[.slice A F.len c, .slice B G.len d, .func (.func 48) #[] #[]] w (SmO (sameF F G) w)) := by
    refine hide ?_
    by_cases hne : F.len = G.len
    · have n1 : (F.len != G.len) = false := by rw [hne]; simp
      have n1' : ((F.len : Int) != (G.len : Int)) = false := by rw [hne]; simp
      have HNE := hide hne
      clear hne
      go_enter Try.func47, Try.ntmps47
      go_wp2_with fail
      clear n1 n1'
      go_loopw [17] (fun j wr => ∃ (i : Nat) (R S : Fo), j = .int .i64 i ∧ EqL w wr F G i R S xs ys D E) (fun j _ => F.len - (intOf j).toNat)
      case atStart => exact ⟨0, F, G, rfl, H0.out⟩
      case round =>
        clear H0
        obtain ⟨i, R, S, rfl, hX⟩ := hrel
        obtain ⟨wa, rfl⟩ : ∃ x, x = wr := ⟨wr, rfl⟩
        have HX := hide hX
        clear hX
        cases R with
        | nil =>
          have hi : i = F.len := by have := HX.out.len; simpa [Fo.len] using this
          have d1 : decide (i < F.len) = false := decide_eq_false (by omega)
          have d1' : decide ((i : Int) < (F.len : Int)) = false := decide_eq_false (by omega)
          have hS : S = .nil := Fo.len_nil (by have h1 := HX.out.leg; have h2 := HNE.out; omega)
          have HEQ := hide (show sameF F G = true from by rw [HX.out.eq, hS]; rfl)
          clear hi hS
          go_wp2_with fail
          go_ret
          exact ⟨by rw [HEQ.out]; rfl, HX.out.bl⟩
        | cons ws ps b K R =>
          have hlen : i + (R.len + 1) = F.len := HX.out.len
          cases S with
          | nil => exfalso; have h1 := HX.out.leg; have h2 := HNE.out; simp only [Fo.len] at h1; omega
          | cons us qs b' L S =>
            have hleg : i + (S.len + 1) = G.len := HX.out.leg
            have d1 : decide (i < F.len) = true := decide_eq_true (by omega)
            have d1' : decide ((i : Int) < (F.len : Int)) = true := decide_eq_true (by omega)
            have d2 : ((i : Int) < (F.len : Int)) := by omega
            have d3 : ((i : Int) < (G.len : Int)) := by omega
            obtain ⟨vw, vp, Ak, ck, zs, g0, g1, g2, g3, hvw, hvp, hks, hkA, hkF, hRF⟩ := drop_fo HX.out.fo
            obtain ⟨uw, up, Bk, dk, z2, k0, k1, k2, k3, huw, hup, hkt, hkB, hkG, hRG⟩ := drop_fo HX.out.go
            obtain ⟨ab, ao, rfl⟩ := src_spot HS.out (by omega) (by decide)
            obtain ⟨bb, bo, rfl⟩ := src_spot HT.out (by omega) (by decide)
            have hsc := src_cells HS.out
            have htc := src_cells HT.out
            have hadA := HA.out _ rfl
            have hadB := HB.out _ rfl
            obtain ⟨Aw, cw, rfl, hws, hwB⟩ := hvw
            obtain ⟨Bw, dw, rfl, hus, huB⟩ := huw
            have HCA := hide (show ∀ x, Below w.heap.size w x → NS ab (ao + i * 4) (.slice Aw ws.length cw) vp (.bool b) (.slice Ak K.len ck) x from fun x hx =>
              ⟨cell_lo (a := ⟨ab, ao + i * 4, none⟩) hx hadA (hsc _ _ g0), cell_lo (a := ⟨ab, ao + i * 4 + 1, none⟩) hx hadA (by rw [Nat.add_assoc]; exact hsc _ _ g1), cell_lo (a := ⟨ab, ao + i * 4 + 2, none⟩) hx hadA (by rw [Nat.add_assoc]; exact hsc _ _ g2), cell_lo (a := ⟨ab, ao + i * 4 + 3, none⟩) hx hadA (by rw [Nat.add_assoc]; exact hsc _ _ g3)⟩)
            have HCB := hide (show ∀ x, Below w.heap.size w x → NS bb (bo + i * 4) (.slice Bw us.length dw) up (.bool b') (.slice Bk L.len dk) x from fun x hx =>
              ⟨cell_lo (a := ⟨bb, bo + i * 4, none⟩) hx hadB (htc _ _ k0), cell_lo (a := ⟨bb, bo + i * 4 + 1, none⟩) hx hadB (by rw [Nat.add_assoc]; exact htc _ _ k1), cell_lo (a := ⟨bb, bo + i * 4 + 2, none⟩) hx hadB (by rw [Nat.add_assoc]; exact htc _ _ k2), cell_lo (a := ⟨bb, bo + i * 4 + 3, none⟩) hx hadB (by rw [Nat.add_assoc]; exact htc _ _ k3)⟩)
            have hnoF : Fo.nodes (.cons ws ps b K R) = K.nodes + R.nodes + 1 := rfl
            have hszF : szF (.cons ws ps b K R) = ws.length + ps.length + 1 + szF K + szF R := rfl
            have hszG : szF (.cons us qs b' L S) = us.length + qs.length + 1 + szF L + szF S := rfl
            have hz1 := HX.out.sz
            have hz2 := HZ.out
            have hKn : K.nodes < n := by have h1 := HX.out.no; have h2 := HN.out; omega
            have HREC := hide (fun (x : World) (hx : Below w.heap.size w x) => HIH.out K.nodes hKn K rfl L Ak Bk ck dk zs z2 D E x (hks.below hx) (hkF.keep (fun q hq => hx.block q (HD.out q hq))) (hkt.below hx) (hkG.keep (fun q hq => hx.block q (HE.out q hq))) (fun a ha => Nat.lt_of_lt_of_le (HD.out _ (hkA a ha)) hx.size) (fun a ha => Nat.lt_of_lt_of_le (HE.out _ (hkB a ha)) hx.size) (fun q hq => Nat.lt_of_lt_of_le (HD.out q hq) hx.size) (fun q hq => Nat.lt_of_lt_of_le (HE.out q hq) hx.size) (by omega) (by omega))
            have HEW := hide (show ∀ w2, Below w.heap.size w w2 → sameF R S = sameF F G → EqL w w2 F G (i + 1) R S xs ys D E from fun w2 h2 he => ⟨h2, hRF, hRG, by omega, by omega, he.symm, ⟨by omega, by omega⟩, by have := HX.out.no; omega⟩)
            have HEQ := hide (show sameF F G = (((b == b') && (decide (ws = us) && sameF K L)) && sameF R S) from HX.out.eq)
            have hc1 := HCA.out _ HX.out.bl
            have c0 := hc1.c0
            have c1 := hc1.c1
            have c2 := hc1.c2
            have c3 := hc1.c3
            have hbn := below_lo HX.out.bl (bel_one wa (NodeC (.slice Aw ws.length cw) vp b (.slice Ak K.len ck))) HX.out.bl.size
            have hc2 := HCB.out _ hbn
            have e0 := hc2.c0
            have e1 := hc2.c1
            have e2 := hc2.c2
            have e3 := hc2.c3
            have hb2 := bel_two wa (NodeC (.slice Aw ws.length cw) vp b (.slice Ak K.len ck)) (NodeC (.slice Bw us.length dw) up b' (.slice Bk L.len dk))
            have h1 := heap_old (p := NodeC (.slice Bw us.length dw) up b' (.slice Bk L.len dk)) (heap_new wa (NodeC (.slice Aw ws.length cw) vp b (.slice Ak K.len ck)))
            have h2 : ((wa.alloc (NodeC (.slice Aw ws.length cw) vp b (.slice Ak K.len ck))).alloc (NodeC (.slice Bw us.length dw) up b' (.slice Bk L.len dk))).heap[wa.heap.size + 1]? = some (NodeC (.slice Bw us.length dw) up b' (.slice Bk L.len dk)) := by
              have := heap_new (wa.alloc (NodeC (.slice Aw ws.length cw) vp b (.slice Ak K.len ck))) (NodeC (.slice Bw us.length dw) up b' (.slice Bk L.len dk))
              rwa [World.size_alloc] at this
            have n0 := cell_heap (j := 0) h1 rfl
            have n1 := cell_heap (j := 1) h1 rfl
            have n2 := cell_heap (j := 2) h1 rfl
            have n3 := cell_heap (j := 3) h1 rfl
            have m0 := cell_heap (j := 0) h2 rfl
            have m1 := cell_heap (j := 1) h2 rfl
            have m2 := cell_heap (j := 2) h2 rfl
            have m3 := cell_heap (j := 3) h2 rfl
            have hbx := below_lo HX.out.bl hb2 HX.out.bl.size
            have HC := hide (same1_walk ws us K L Aw Bw Ak Bk cw dw ck dk vp up b b' _ (hws.below hbx) (hus.below hbx) (by omega) (by omega) (hide (fun x hx => HREC.out x (below_lo hbx hx hbx.size))))
            have HBX := hide hbx
            have HLL := hide hlen
            obtain ⟨Ap, cp, rfl, -, -⟩ := hvp
            obtain ⟨Bp, dp, rfl, -, -⟩ := hup
            clear hsc htc g0 g1 g2 g3 k0 k1 k2 k3 hks hkA hkF hRF hkt hkB hkG hRG hws hwB hus huB hadA hadB hnoF hszF hszG hz1 hz2 hKn hc1 hc2 hbn hb2 h1 h2 hbx hlen hleg
            generalize hvv : ((b == b') && (decide (ws = us) && sameF K L)) = vv at *
            cases vv with
            | true =>
              clear hvv
              go_wp2_with fail
              refine HC.out.mono ?_
              rintro e w2 ⟨rfl, hb2⟩
              have HEL := hide (HEW.out w2 (below_lo HBX.out hb2 HBX.out.size) (by rw [HEQ.out]; simp))
              clear hb2 n0 n1 n2 n3 m0 m1 m2 m3 c0 c1 c2 c3 e0 e1 e2 e3
              go_wp2_with fail
              go_roundw
              case rel => exact ⟨i + 1, R, S, by go_num, HEL.out⟩
              case measure => have := HLL.out; simp [intOf]; omega
            | false =>
              clear hvv
              go_wp2_with fail
              refine HC.out.mono ?_
              rintro e w2 ⟨rfl, hb2⟩
              have HB3 := hide (below_lo HBX.out hb2 HBX.out.size)
              clear hb2 n0 n1 n2 n3 m0 m1 m2 m3 c0 c1 c2 c3 e0 e1 e2 e3
              go_wp2_with fail
              (try simp only [Exit.inBlock, Exit.then])
              go_ret
              exact ⟨by rw [HEQ.out]; rfl, HB3.out⟩
    · have n1 : (F.len != G.len) = true := bne_iff_ne.2 hne
      have n1' : ((F.len : Int) != (G.len : Int)) = true := bne_iff_ne.2 (by omega)
      have HNE := hide (sameF_len hne)
      clear hne H0
      go_enter Try.func47, Try.ntmps47
      go_wp2_with fail
      go_ret
      exact ⟨by rw [HNE.out]; rfl, Below.refl _ _⟩
  clear H0 HIH HS HT
  go_enter Try.func23, Try.ntmps23
  go_wp2_with fail
  refine HQ.out.mono ?_
  rintro e w2 ⟨rfl, hb2⟩
  have HB2 := hide hb2
  clear hb2 HQ
  go_wp2_with fail
  go_ret
  exact ⟨rfl, HB2.out⟩
end Go.Proofs.Ytihmmmodimionaa.Tr
/- What Parse's answer is like, in plain words: it is the document's; each statement has words; it is not deep, nor great. -/
namespace Go.Proofs.Ytihmmmodimionaa.Tr
open Go.RowKit Go.Proofs.Ytihmmmodimionaa Go.Proofs.Ytihmmmodimionaa.Lx

/-- what the document's Parse answers -/
def rparseF (s : List UInt8) : RR :=
  if (tokRes s).2.2.2 = 0 then refR ((tokRes s).1.length + 1) [] [] (bsOf (tokRes s).1) else .err (tokRes s).2.2.2 (tokRes s).2.1 (tokRes s).2.2.1
theorem parse_ref (s : List UInt8) : match parseF s with
    | .ok F _ => rparseF s = .ok (rowsF 0 F) [] []
    | .err e l c => rparseF s = .err e l c := by
  unfold parseF rparseF
  by_cases h : (tokRes s).2.2.2 = 0
  · rw [if_pos h, if_pos h]
    have := list_ref ((tokRes s).1.length + 1) (0, 0) [] [] (bsOf (tokRes s).1) (by rw [bsOf_len]; omega) (.inl rfl) (by simp)
    rw [bsOf_len] at this
    simp only [List.length_nil] at this
    cases hl : listF ((tokRes s).1.length + 1) 0 (0, 0) (bsOf (tokRes s).1) with
    | ok F r =>
      rw [hl] at this
      have := this.1 trivial
      simpa using this.2
    | err e l c =>
      rw [hl] at this
      exact this
  · rw [if_neg h, if_neg h]
theorem gd_join : ∀ F G : Fo, Gd F → Gd G → Gd (F.app G)
  | .nil, _, _, h => h
  | .cons _ _ _ _ R, G, h, h' => ⟨h.1, h.2.1, h.2.2.1, gd_join R G h.2.2.2 h'⟩
theorem dp_app (d : Nat) : ∀ F G : Fo, dpF d F = true → dpF d G = true → dpF d (F.app G) = true
  | .nil, _, _, h => h
  | .cons _ _ _ K R, G, h, h' => by
    rw [dpF, Bool.and_eq_true, Bool.and_eq_true] at h
    rw [Fo.app, dpF, h.1, h.2.1, dp_app d R G h.2.2 h']
    rfl
theorem gd_leafs (n : List BTok) : ∀ l : List BTok, Gd (leafs n l)
  | [] => trivial
  | _ :: xs => ⟨by simp, by simp, trivial, gd_leafs n xs⟩
theorem dp_leafs (d : Nat) (hd : d ≤ 60) (n : List BTok) : ∀ l : List BTok, dpF d (leafs n l) = true
  | [] => rfl
  | x :: xs => by rw [leafs, dpF, dp_leafs d hd n xs, decide_eq_true hd]; rfl
theorem sz_leafs (n : List BTok) : ∀ l : List BTok, szF (leafs n l) = l.length * (2 * n.length + 3)
  | [] => by simp [leafs, szF]
  | x :: xs => by
    rw [leafs, szF, sz_leafs n xs]
    simp only [szF, List.length_append, List.length_map, List.length_cons, List.length_nil, Nat.add_mul]
    omega
structure NiceF (d M : Nat) (F : Fo) (toks r : List BTok) : Prop where
  gd : Gd F
  dp : dpF d F = true
  sz : ∃ k, toks.length = r.length + k ∧ szF F ≤ M * k
theorem words_pos {t : BTok} {ts : List BTok} (h : t.k = 1) : 1 ≤ (wordsT (t :: ts)).length := by rw [wordsT, if_pos h]; simp
theorem tail_nice {rec : Pl → List BTok → PR} {deep M : Nat} {first : Pl} {n : List BTok} {all : Fo} {toks : List BTok} {F : Fo} {r : List BTok} (hd : deep ≤ 32) (hn : 1 ≤ n.length) (k0 : Nat) (hk0 : 2 * n.length + 1 ≤ M * k0) (ha : Gd all) (hda : dpF deep all = true) (hsa : szF all ≤ M * k0)
    (hr : deep < 32 → ∀ o ts K q, ts.length < toks.length → rec o ts = .ok K q → NiceF (deep + 1) M K ts q) (h : tailS rec deep first n all toks = .ok F r) : Gd F ∧ dpF deep F = true ∧ ∃ k, toks.length = r.length + k ∧ szF F ≤ M * (k0 + k) := by
  have hd60 : decide (deep ≤ 60) = true := decide_eq_true (by omega)
  cases toks with
  | nil => cases h
  | cons t ts =>
    rw [tailS] at h
    by_cases k4 : t.k = 4
    · rw [if_pos k4] at h
      injection h with h1 h2
      subst h2
      subst h1
      have hm : M * k0 ≤ M * (k0 + 1) := Nat.mul_le_mul_left _ (by omega)
      by_cases h0 : all.len = 0
      · rw [if_pos h0]
        refine ⟨⟨by simpa using hn, by simpa using hn, trivial, trivial⟩, by simp [dpF, hd60], 1, by simp, ?_⟩
        simp only [szF, List.length_map]
        omega
      · rw [if_neg h0]
        exact ⟨ha, hda, 1, by simp, by omega⟩
    · rw [if_neg k4] at h
      by_cases k2 : t.k = 2 ∧ all.len = 0
      · rw [if_pos k2] at h
        by_cases h32 : deep = 32
        · rw [if_pos h32] at h; cases h
        · rw [if_neg h32] at h
          cases e : rec t.pos ts with
          | err e' l c => rw [e] at h; cases h
          | ok K q =>
            rw [e] at h
            cases h
            have hq := hr (by omega) _ _ _ _ (by simp) e
            obtain ⟨k, hk1, hk2⟩ := hq.sz
            refine ⟨⟨by simpa using hn, by simpa using hn, hq.gd, trivial⟩, by simp [dpF, hd60, hq.dp], k + 1, by simp; omega, ?_⟩
            simp only [szF, List.length_map]
            have h1 : M * (k0 + (k + 1)) = M * k0 + M * k + M := by rw [Nat.mul_add, Nat.mul_add, Nat.mul_one]; omega
            omega
      · rw [if_neg k2] at h; cases h
theorem stmt_nice {rec : Pl → List BTok → PR} {deep M : Nat} {first : Pl} {t : BTok} {ts : List BTok} {F : Fo} {r : List BTok} (hk : t.k = 1) (hd : deep ≤ 32) (hM : 3 * (ts.length + 2) ≤ M)
    (hr : deep < 32 → ∀ o us K q, us.length < ts.length + 1 → rec o us = .ok K q → NiceF (deep + 1) M K us q) (h : stmtF rec deep first (t :: ts) = .ok F r) : NiceF deep M F (t :: ts) r := by
  have hw := congrArg List.length (words_behind (t :: ts))
  rw [List.length_append, List.length_cons] at hw
  have hn := words_pos (ts := ts) hk
  have hk1 : ∀ k0, 1 ≤ k0 → 2 * (wordsT (t :: ts)).length + 1 ≤ M * k0 := fun k0 h => by
    have : M ≤ M * k0 := Nat.le_mul_of_pos_right _ h
    omega
  have hb := behind_le (t :: ts)
  unfold stmtF at h
  split at h
  · cases h
  · rename_i u us e
    rw [e] at hb hw
    simp only [List.length_cons] at hb hw
    split at h
    · have hb2 := behind_le us
      have hw2 := congrArg List.length (words_behind us)
      rw [List.length_append] at hw2
      split at h
      · cases h
      · rename_i v vs e2
        rw [e2] at hb2 hw2
        simp only [List.length_cons] at hb2 hw2
        split at h
        · obtain ⟨h1, h2, k, h3, h4⟩ := tail_nice hd hn ((wordsT (t :: ts)).length + 1 + (wordsT us).length + 1) (hk1 _ (by omega)) (gd_leafs _ _) (dp_leafs deep (by omega) _ _) (by
            rw [sz_leafs]
            have h5 : (wordsT us).length * (2 * (wordsT (t :: ts)).length + 3) ≤ (wordsT us).length * M := Nat.mul_le_mul_left _ (by omega)
            have h6 : M * (wordsT us).length ≤ M * ((wordsT (t :: ts)).length + 1 + (wordsT us).length + 1) := Nat.mul_le_mul_left _ (by omega)
            rw [Nat.mul_comm _ M] at h5
            omega) (fun hd o ws K q hl => hr hd o ws K q (by omega)) h
          exact ⟨h1, h2, _, by simp only [List.length_cons]; omega, h4⟩
        · cases h
    · obtain ⟨h1, h2, k, h3, h4⟩ := tail_nice hd hn (wordsT (t :: ts)).length (hk1 _ hn) (show Gd .nil from trivial) rfl (by simp [szF]) (fun hd o ws K q hl => hr hd o ws K q (by simp only [List.length_cons] at hl; omega)) h
      simp only [List.length_cons] at h3
      exact ⟨h1, h2, _, by simp only [List.length_cons]; omega, h4⟩
theorem list_nice (M : Nat) : ∀ (f deep : Nat) (op : Pl) (toks : List BTok) (F : Fo) (r : List BTok), deep ≤ 32 → 3 * (toks.length + 1) ≤ M → listF f deep op toks = .ok F r → NiceF deep M F toks r := by
  intro f
  induction f with
  | zero => intro deep op toks F r _ _ h; cases h
  | succ f ih =>
    intro deep op toks F r hd hM h
    cases toks with
    | nil =>
      unfold listF at h
      split at h
      · cases h; exact ⟨trivial, rfl, 0, rfl, by simp [szF]⟩
      · cases h
    | cons t ts =>
      simp only [List.length_cons] at hM
      unfold listF at h
      split at h
      · split at h
        · cases h
        · cases h; exact ⟨trivial, rfl, 1, by simp, by simp [szF]⟩
      · split at h
        · rename_i k1
          split at h
          · rename_i G q e
            have h1 := stmt_nice (M := M) k1 hd (by omega) (fun hd' o us K q' hl h' => ih (deep + 1) o us K q' (by omega) (by omega) h') e
            cases h2 : listF f deep op q with
            | err e l c => rw [h2] at h; cases h
            | ok H q' =>
              rw [h2] at h
              cases h
              obtain ⟨k1', hk1, hs1⟩ := h1.sz
              have h3 := ih deep op q H _ hd (by simp only [List.length_cons] at hk1; omega) h2
              obtain ⟨k2, hk2, hs2⟩ := h3.sz
              refine ⟨gd_join _ _ h1.gd h3.gd, dp_app _ _ _ h1.dp h3.dp, k1' + k2, by omega, ?_⟩
              rw [sz_app, Nat.mul_add]
              omega
          · cases h
        · cases h
theorem parse_nice (s : List UInt8) (F : Fo) (r : List BTok) (hl : (tokRes s).1.length ≤ 65536) (h : parseF s = .ok F r) : Gd F ∧ dpF 0 F = true ∧ szF F ≤ 17179869184 := by
  unfold parseF at h
  split at h
  · have := list_nice (3 * 65537) _ _ _ _ _ _ (by omega) (by rw [bsOf_len]; omega) h
    obtain ⟨k, hk, hs⟩ := this.sz
    rw [bsOf_len] at hk
    refine ⟨this.gd, this.dp, ?_⟩
    have : 3 * 65537 * k ≤ 3 * 65537 * 65536 := Nat.mul_le_mul_left _ (by omega)
    omega
  · cases h
theorem nodes_rows : ∀ (F : Fo) (d : Nat), (rowsF d F).length = F.nodes
  | .nil, _ => rfl
  | .cons ws ps b K R, d => by
    rw [rowsF, List.length_cons, List.length_append, nodes_rows K, nodes_rows R]
    rfl
end Go.Proofs.Ytihmmmodimionaa.Tr
/- What is written is read back: the same statements, places aside; what is read may be written. In plain words. -/
namespace Go.Proofs.Ytihmmmodimionaa.Tr
open Go.RowKit Go.Proofs.Ytihmmmodimionaa Go.Proofs.Ytihmmmodimionaa.Lx

def ktB (x : BTok) : KT' := (x.k, T x.b)
theorem T_one {a b : ByteArray} (h : T a = T b) : a = b := by
  cases a with
  | mk a =>
    cases b with
    | mk b =>
      simp only [T] at h
      have : a = b := by
        apply Array.toList_inj.1
        exact h
      rw [this]
theorem words_kt : ∀ (ws : List ByteArray) (toks : List BTok) (rest : List KT'), toks.map ktB = ws.map (fun w => ((1 : Int), T w)) ++ rest → (∀ p ∈ rest.head?, p.1 ≠ 1) → (wordsT toks).map BTok.b = ws ∧ (behindT toks).map ktB = rest
  | [], [], rest, h, _ => by simp at h; subst h; exact ⟨rfl, rfl⟩
  | [], t :: ts, rest, h, hr => by
    simp only [List.map_nil, List.nil_append] at h
    have hk : t.k ≠ 1 := by
      have := hr (ktB t) (by rw [← h]; rfl)
      exact this
    rw [wordsT, behindT, if_neg hk, if_neg hk]
    exact ⟨rfl, h⟩
  | w :: ws, [], rest, h, _ => by simp at h
  | w :: ws, t :: ts, rest, h, hr => by
    simp only [List.map_cons, List.cons_append, List.cons.injEq] at h
    obtain ⟨h1, h2⟩ := h
    have hk : t.k = 1 := congrArg Prod.fst h1
    have hb : t.b = w := T_one (congrArg Prod.snd h1)
    obtain ⟨h3, h4⟩ := words_kt ws ts rest h2 hr
    rw [wordsT, behindT, if_pos hk, if_pos hk, List.map_cons, h3, hb]
    exact ⟨rfl, h4⟩
/-- statements that are written are read back -/
theorem back : ∀ (F : Fo) (d : Nat) (t : List UInt8), writeF d F = some t → ∀ (toks : List BTok) (rest : List KT') (op : Pl) (f : Nat), toks.map ktB = tokW F ++ rest → toks.length < f →
    ∃ F' rt g, sameF F F' = true ∧ rt.map ktB = rest ∧ rt.length < g ∧ listF f d op toks = putF F' (listF g d op rt)
  | .nil, d, t, h, toks, rest, op, f, he, hf => ⟨.nil, toks, f, rfl, by simpa [tokW] using he, hf, (putF_nil _).symm⟩
  | .cons ws ps b Kd R, d, t, h, toks, rest, op, f, he, hf => by
    obtain ⟨g, rfl⟩ : ∃ g, f = g + 1 := ⟨f - 1, by omega⟩
    unfold writeF at h
    split at h
    · cases h
    · rename_i hc
      have h0 : ws.length ≠ 0 := fun e => hc (.inl e)
      cases hq : quotesT ws with
      | none => rw [hq] at h; cases h
      | some qs =>
        rw [hq] at h
        simp only at h
        rw [tokW, List.append_assoc] at he
        have hw := words_kt ws toks _ he (by
          cases b <;> simp)
        obtain ⟨hw1, hw2⟩ := hw
        cases toks with
        | nil => exfalso; simp [wordsT] at hw1; subst hw1; exact h0 rfl
        | cons u us =>
          have hk : u.k = 1 := by
            by_cases hk : u.k = 1
            · exact hk
            · rw [wordsT, if_neg hk] at hw1; simp at hw1; subst hw1; exact absurd rfl h0
          have hb2 := behind_le us
          have hbu : behindT (u :: us) = behindT us := by rw [behindT, if_pos hk]
          have hlf : ∀ (X : PR), (match stmtF (fun o r => listF g (d + 1) o r) d u.pos (u :: us) with | .ok F r => putF F (listF g d op r) | .err e l c => .err e l c) = X → listF (g + 1) d op (u :: us) = X := by
            intro X hX
            unfold listF
            rw [if_neg (by rw [hk]; decide), if_pos hk]
            exact hX
          simp only [List.length_cons] at hf
          cases b with
          | false =>
            simp only [Bool.false_eq_true, if_false, List.cons_append, List.nil_append] at hw2 h
            cases hR : writeF d R with
            | none => rw [hR] at h; cases h
            | some rt =>
              cases hbs : behindT (u :: us) with
              | nil => rw [hbs] at hw2; cases hw2
              | cons v vs =>
                rw [hbs] at hw2
                simp only [List.map_cons, List.cons.injEq] at hw2
                have hv : v.k = 4 := congrArg Prod.fst hw2.1
                have hvl : vs.length < us.length := by rw [hbu] at hbs; rw [hbs] at hb2; simp only [List.length_cons] at hb2; omega
                obtain ⟨R', rt', g', hs, hm, hl, hg⟩ := back R d rt hR vs rest op g hw2.2 (by omega)
                refine ⟨(.cons ((wordsT (u :: us)).map BTok.b) ((wordsT (u :: us)).map BTok.pos) false .nil .nil : Fo).app R', rt', g', ?_, hm, hl, hlf _ ?_⟩
                · have hKn : Kd = .nil := Fo.len_nil (by
                    by_cases hz : Kd.len = 0
                    · exact hz
                    · exact absurd (.inr (.inl ⟨rfl, hz⟩)) hc)
                  rw [hw1, hKn]
                  simp [Fo.app, sameF, hs]
                · unfold stmtF
                  rw [hbs]
                  simp only
                  rw [if_neg (by rw [hv]; decide), tailS, if_pos hv]
                  simp only [Fo.len, if_true]
                  rw [hg, putF_put]
          | true =>
            simp only [if_true, List.cons_append] at hw2 h
            cases hKd : writeF (d + 1) Kd with
            | none => rw [hKd] at h; cases h
            | some kt =>
              rw [hKd] at h
              simp only at h
              cases hR : writeF d R with
              | none => rw [hR] at h; cases h
              | some rt =>
                have hd : d < 32 := by
                  rcases Nat.lt_or_ge d 32 with hd | hd
                  · exact hd
                  · exact absurd (.inr (.inr ⟨rfl, hd⟩)) hc
                cases hbs : behindT (u :: us) with
                | nil => rw [hbs] at hw2; cases hw2
                | cons v vs =>
                  rw [hbs] at hw2
                  simp only [List.map_cons, List.cons.injEq] at hw2
                  have hv : v.k = 2 := congrArg Prod.fst hw2.1
                  have hvl : vs.length < us.length := by rw [hbu] at hbs; rw [hbs] at hb2; simp only [List.length_cons] at hb2; omega
                  obtain ⟨K', kt', g1, hs1, hm1, hl1, hg1⟩ := back Kd (d + 1) kt hKd vs ((3, [125]) :: (tokW R ++ rest)) v.pos g (by rw [hw2.2]; simp) (by omega)
                  cases kt' with
                  | nil => cases hm1
                  | cons z zs =>
                    simp only [List.map_cons, List.cons.injEq] at hm1
                    have hz : z.k = 3 := congrArg Prod.fst hm1.1
                    obtain ⟨g2, rfl⟩ : ∃ g2, g1 = g2 + 1 := ⟨g1 - 1, by simp at hl1; omega⟩
                    have hcl : listF (g2 + 1) (d + 1) v.pos (z :: zs) = .ok .nil zs := by
                      unfold listF
                      rw [if_pos hz, if_neg (by omega)]
                    have hrec : listF g (d + 1) v.pos vs = .ok K' zs := by rw [hg1, hcl]; simp [putF, Fo.app_nil]
                    have hzl : zs.length < g := by
                      have := listF_rest _ _ _ _ _ _ hrec
                      omega
                    obtain ⟨R', rt', g', hs, hm, hl, hg⟩ := back R d rt hR zs rest op g hm1.2 hzl
                    refine ⟨(.cons ((wordsT (u :: us)).map BTok.b) ((wordsT (u :: us)).map BTok.pos) true K' .nil : Fo).app R', rt', g', ?_, hm, hl, hlf _ ?_⟩
                    · rw [hw1]
                      simp [Fo.app, sameF, hs, hs1]
                    · unfold stmtF
                      rw [hbs]
                      simp only
                      rw [if_neg (by rw [hv]; decide), tailS, if_neg (by rw [hv]; decide), if_pos ⟨hv, rfl⟩, if_neg (by omega), hrec]
                      simp only
                      rw [hg, putF_put]
theorem bsOf_kt (ts : List Tok) : (bsOf ts).map ktB = ts.map kt := by
  unfold bsOf
  rw [List.map_map]
  refine List.map_congr_left (fun x _ => ?_)
  simp [ktB, kt, T]
/-- a text of which the tokens are a forest's is read as that forest -/
theorem read_back {F : Fo} {t s : List UInt8} (h : writeF 0 F = some t) (hk : K s = some (tokW F)) (hc : (chk s).2.2 = 0) : ∃ F', parseF s = .ok F' [] ∧ sameF F F' = true := by
  unfold Lx.K at hk
  rw [← kts_toks _ _ 1 1] at hk
  cases ht : toks s.length s 1 1 with
  | error e => rw [ht] at hk; simp at hk
  | ok ts =>
    rw [ht] at hk
    simp only [Option.some.injEq] at hk
    have hr := tokRes_ok hc ht
    obtain ⟨F', rt, g, h1, h2, h3, h4⟩ := back F 0 t h (bsOf ts) [] (0, 0) (ts.length + 1) (by rw [bsOf_kt, hk]; simp) (by rw [bsOf_len]; omega)
    have hn : rt = [] := by cases rt with | nil => rfl | cons a b => cases h2
    subst hn
    obtain ⟨g', rfl⟩ : ∃ g', g = g' + 1 := ⟨g - 1, by omega⟩
    refine ⟨F', ?_, h1⟩
    unfold parseF
    rw [hr]
    simp only [if_true]
    rw [h4]
    unfold listF
    simp [putF, Fo.app_nil]
theorem K_end : K [35, 32, 121] = some [] := by kernel_rfl
theorem K_wide : ∀ (b r : List UInt8), (∀ x ∈ b, x = 32 ∨ x = 10) → K (b ++ r) = K r
  | [], _, _ => rfl
  | x :: xs, r, h => by
    rw [List.cons_append, K_blank x (h x (by simp))]
    exact K_wide xs r (fun y hy => h y (by simp [hy]))
def headT : List UInt8 := [32, 47, 42, 32, 120, 32, 42, 47, 32]
def endT : List UInt8 := [35, 32, 121]
/-- between a remark and blanks, and a remark -/
theorem read_wide {F : Fo} {t b : List UInt8} (h : writeF 0 F = some t) (hb : ∀ x ∈ b, x = 32 ∨ x = 10) (hbl : b.length ≤ 40) (hn : F.nodes ≤ 1500) (ht : t.length ≤ 60000) : ∃ F', parseF (headT ++ b ++ t ++ endT) = .ok F' [] ∧ sameF F F' = true := by
  have hw := write_ok F 0 t h
  refine read_back h ?_ ?_
  · have e : headT ++ b ++ t ++ endT = 32 :: 47 :: 42 :: ([32, 120, 32] ++ 42 :: 47 :: (32 :: (b ++ (t ++ endT)))) := by simp [headT]
    rw [e, K_blank 32 (.inl rfl), K_comment [32, 120, 32] _ (by decide), K_blank 32 (.inl rfl), K_wide b _ hb, K_write F 0 t _ h]
    rw [show K endT = some [] from K_end]
    simp
  · refine chk_good (fun x hx => ?_) ?_ ?_
    · simp only [List.mem_append] at hx
      rcases hx with ((hx | hx) | hx) | hx
      · right
        simp only [headT, List.mem_cons, List.not_mem_nil, or_false] at hx
        unfold Lx.okB
        have hx2 : x = 32 ∨ x = 47 ∨ x = 42 ∨ x = 120 := by
          rcases hx with h | h | h | h | h | h | h | h | h <;> simp [h]
        rcases hx2 with rfl | rfl | rfl | rfl <;> decide
      · rcases hb x hx with rfl | rfl
        · right; unfold Lx.okB; decide
        · exact .inl rfl
      · exact hw.1 x hx
      · right
        simp [endT] at hx
        unfold Lx.okB
        rcases hx with rfl | rfl | rfl <;> decide
    · have h1 : b.count 10 ≤ b.length := List.count_le_length
      have h2 : headT.count 10 = 0 := by decide
      have h3 : endT.count 10 = 0 := by decide
      rw [List.count_append, List.count_append, List.count_append, h2, h3]
      omega
    · have h2 : headT.length = 9 := rfl
      have h3 : endT.length = 3 := rfl
      rw [List.length_append, List.length_append, List.length_append, h2, h3]
      omega
/-- by itself -/
theorem read_plain {F : Fo} {t : List UInt8} (h : writeF 0 F = some t) (hn : F.nodes ≤ 1500) (ht : t.length ≤ 60000) : ∃ F', parseF t = .ok F' [] ∧ sameF F F' = true := by
  have hw := write_ok F 0 t h
  refine read_back h ?_ (chk_good hw.1 (by omega) (by omega))
  have := K_write F 0 t [] h
  rw [List.append_nil] at this
  rw [this, show K [] = some [] from rfl]
  simp
end Go.Proofs.Ytihmmmodimionaa.Tr
/- What is read may be written, and how much room that takes; in plain words. -/
namespace Go.Proofs.Ytihmmmodimionaa.Tr
open Go.RowKit Go.Proofs.Ytihmmmodimionaa Go.Proofs.Ytihmmmodimionaa.Lx

def okW (w : ByteArray) : Prop := (T w).any badB = false ∧ w.size ≤ 65536
def WrF : Nat → Fo → Prop
  | _, .nil => True
  | d, .cons ws _ b Kd R => 1 ≤ ws.length ∧ (b = false → Kd = .nil) ∧ (b = true → d < 32) ∧ (∀ w ∈ ws, okW w) ∧ WrF (d + 1) Kd ∧ WrF d R
theorem quotes_ok : ∀ (ws : List ByteArray), (∀ w ∈ ws, okW w) → ∃ qs, quotesT ws = some qs
  | [], _ => ⟨[], rfl⟩
  | w :: ws, h => by
    obtain ⟨qs, hq⟩ := quotes_ok ws (fun v hv => h v (by simp [hv]))
    have hw := (h w (by simp)).1
    have : ∃ q, quoteT (T w) = some q := by
      unfold quoteT
      rw [if_neg (by rw [hw]; decide)]
      split <;> exact ⟨_, rfl⟩
    obtain ⟨q, hq2⟩ := this
    exact ⟨q :: qs, by rw [quotesT, hq2, hq]⟩
theorem wr_some : ∀ (F : Fo) (d : Nat), WrF d F → ∃ t, writeF d F = some t
  | .nil, d, _ => ⟨[], rfl⟩
  | .cons ws ps b Kd R, d, h => by
    obtain ⟨h1, h2, h3, h4, h5, h6⟩ := h
    obtain ⟨qs, hq⟩ := quotes_ok ws h4
    obtain ⟨r, hr⟩ := wr_some R d h6
    obtain ⟨k, hk⟩ := wr_some Kd (d + 1) h5
    have hc : ¬ (ws.length = 0 ∨ (b = false ∧ Kd.len ≠ 0) ∨ (b = true ∧ 32 ≤ d)) := by
      rintro (h | ⟨h, h'⟩ | ⟨h, h'⟩)
      · omega
      · rw [h2 h] at h'; exact h' rfl
      · have := h3 h; omega
    rw [writeF, if_neg hc, hq, hr, hk]
    cases b <;> exact ⟨_, rfl⟩
theorem wr_WB : ∀ (F : Fo) (d : Nat), WrF d F → WB F
  | .nil, _, _ => trivial
  | .cons ws ps b Kd R, d, h => ⟨fun w hw => by have := (h.2.2.2.1 w hw).2; omega, wr_WB Kd (d + 1) h.2.2.2.2.1, wr_WB R d h.2.2.2.2.2⟩
theorem wr_join : ∀ (F G : Fo) (d : Nat), WrF d F → WrF d G → WrF d (F.app G)
  | .nil, _, _, _, h => h
  | .cons _ _ _ _ R, G, d, h, h' => ⟨h.1, h.2.1, h.2.2.1, h.2.2.2.1, h.2.2.2.2.1, wr_join R G d h.2.2.2.2.2 h'⟩
theorem wt_app : ∀ F G : Fo, wtF (F.app G) = wtF F + wtF G
  | .nil, G => by simp [Fo.app, wtF]
  | .cons ws _ _ Kd R, G => by rw [Fo.app, wtF, wtF, wt_app R]; omega
theorem wsW_app : ∀ a b : List ByteArray, wsW (a ++ b) = wsW a + wsW b
  | [], b => by simp [wsW]
  | x :: xs, b => by rw [List.cons_append, wsW, wsW, wsW_app xs]; omega
def tkS : List BTok → Nat
  | [] => 0
  | t :: ts => t.b.size + 3 + tkS ts
theorem tkS_app : ∀ a b : List BTok, tkS (a ++ b) = tkS a + tkS b
  | [], b => by simp [tkS]
  | x :: xs, b => by rw [List.cons_append, tkS, tkS, tkS_app xs]; omega
theorem tkS_ws : ∀ a : List BTok, wsW (a.map BTok.b) = tkS a
  | [] => rfl
  | x :: xs => by rw [List.map_cons, wsW, tkS, tkS_ws xs]
theorem tkS_mem : ∀ {a : List BTok} {x : BTok}, x ∈ a → x.b.size + 3 ≤ tkS a
  | y :: ys, x, h => by
    rcases List.mem_cons.1 h with rfl | h
    · rw [tkS]; omega
    · have := tkS_mem h; rw [tkS]; omega
theorem tkS_suf {a b : List BTok} (h : a <:+ b) : tkS a ≤ tkS b := by
  obtain ⟨c, rfl⟩ := h
  rw [tkS_app]; omega
theorem behind_suf (ts : List BTok) : behindT ts <:+ ts := ⟨wordsT ts, words_behind ts⟩
theorem words_sub {ts : List BTok} {x : BTok} (h : x ∈ wordsT ts) : x ∈ ts := by
  rw [← words_behind ts]
  exact List.mem_append_left _ h
theorem words_S (ts : List BTok) : tkS (wordsT ts) ≤ tkS ts := by
  have := congrArg tkS (words_behind ts)
  rw [tkS_app] at this
  omega
/-- tokens of which words may be written -/
structure GT (S : Nat) (toks : List BTok) : Prop where
  ok : ∀ t ∈ toks, t.k = 1 → okW t.b
  S : tkS toks ≤ S
theorem GT.suf {S : Nat} {a b : List BTok} (h : GT S b) (hs : a <:+ b) : GT S a := ⟨fun t ht => h.ok t (hs.subset ht), Nat.le_trans (tkS_suf hs) h.S⟩
structure NW (d M : Nat) (F : Fo) (toks r : List BTok) : Prop where
  wr : WrF d F
  suf : r <:+ toks
  sz : ∃ k, toks.length = r.length + k ∧ wtF F ≤ M * k
theorem wr_leafs (d : Nat) (n : List BTok) (hn : ∀ t ∈ n, okW t.b) : ∀ l : List BTok, (∀ t ∈ l, okW t.b) → WrF d (leafs n l)
  | [], _ => trivial
  | x :: xs, h => ⟨by simp, fun _ => rfl, fun e => (by cases e), fun w hw => by
      rcases List.mem_append.1 hw with hw | hw
      · obtain ⟨t, ht, rfl⟩ := List.mem_map.1 hw
        exact hn t ht
      · obtain rfl : w = x.b := by simpa using hw
        exact h x (by simp), trivial, wr_leafs d n hn xs (fun t ht => h t (by simp [ht]))⟩
theorem wt_leafs {S : Nat} (n : List BTok) (hn : tkS n ≤ S) : ∀ l : List BTok, tkS l ≤ S → wtF (leafs n l) ≤ (2 * S + 300) * l.length
  | [], _ => by simp [leafs, wtF]
  | x :: xs, h => by
    rw [tkS] at h
    have := wt_leafs n hn xs (by omega)
    rw [leafs, wtF, wsW_app, tkS_ws, List.length_cons, Nat.mul_succ]
    simp only [wsW, wtF]
    omega
theorem tail_nw {rec : Pl → List BTok → PR} {deep S : Nat} {first : Pl} {n : List BTok} {all : Fo} {toks : List BTok} {F : Fo} {r : List BTok} (hd : deep ≤ 32) (hn : 1 ≤ n.length) (hng : ∀ t ∈ n, okW t.b) (hnS : tkS n ≤ S) (k0 : Nat) (hk0 : 1 ≤ k0) (ha : WrF deep all) (hsa : wtF all ≤ (2 * S + 300) * k0)
    (hr : deep < 32 → ∀ o ts K q, ts <:+ toks → ts.length < toks.length → rec o ts = .ok K q → NW (deep + 1) (2 * S + 300) K ts q) (h : tailS rec deep first n all toks = .ok F r) : WrF deep F ∧ r <:+ toks ∧ ∃ k, toks.length = r.length + k ∧ wtF F ≤ (2 * S + 300) * (k0 + k) := by
  have hw : ∀ w ∈ n.map BTok.b, okW w := fun w hw => by
    obtain ⟨t, ht, rfl⟩ := List.mem_map.1 hw
    exact hng t ht
  have hone : 2 * S + 300 ≤ (2 * S + 300) * k0 := Nat.le_mul_of_pos_right _ hk0
  cases toks with
  | nil => cases h
  | cons t ts =>
    have hsuf : ts <:+ t :: ts := List.suffix_cons t ts
    rw [tailS] at h
    by_cases k4 : t.k = 4
    · rw [if_pos k4] at h
      injection h with h1 h2
      subst h2
      subst h1
      have hm : (2 * S + 300) * k0 ≤ (2 * S + 300) * (k0 + 1) := Nat.mul_le_mul_left _ (by omega)
      by_cases h0 : all.len = 0
      · rw [if_pos h0]
        refine ⟨⟨by simpa using hn, fun _ => rfl, fun e => (by cases e), hw, trivial, trivial⟩, hsuf, 1, by simp, ?_⟩
        simp only [wtF, tkS_ws]
        omega
      · rw [if_neg h0]
        exact ⟨ha, hsuf, 1, by simp, by omega⟩
    · rw [if_neg k4] at h
      by_cases k2 : t.k = 2 ∧ all.len = 0
      · rw [if_pos k2] at h
        by_cases h32 : deep = 32
        · rw [if_pos h32] at h; cases h
        · rw [if_neg h32] at h
          cases e : rec t.pos ts with
          | err e' l c => rw [e] at h; cases h
          | ok K q =>
            rw [e] at h
            cases h
            have hq := hr (by omega) _ _ _ _ hsuf (by simp) e
            obtain ⟨k, hk1, hk2⟩ := hq.sz
            refine ⟨⟨by simpa using hn, fun e => (by cases e), fun _ => by omega, hw, hq.wr, trivial⟩, hq.suf.trans hsuf, k + 1, by simp; omega, ?_⟩
            simp only [wtF, tkS_ws]
            have h1 : (2 * S + 300) * (k0 + (k + 1)) = (2 * S + 300) * k0 + (2 * S + 300) * k + (2 * S + 300) := by rw [Nat.mul_add, Nat.mul_add, Nat.mul_one]; omega
            omega
      · rw [if_neg k2] at h; cases h
theorem stmt_nw {rec : Pl → List BTok → PR} {deep S : Nat} {first : Pl} {t : BTok} {ts : List BTok} {F : Fo} {r : List BTok} (hk : t.k = 1) (hd : deep ≤ 32) (hg : GT S (t :: ts))
    (hr : deep < 32 → ∀ o us K q, us <:+ t :: ts → us.length < ts.length + 1 → rec o us = .ok K q → NW (deep + 1) (2 * S + 300) K us q) (h : stmtF rec deep first (t :: ts) = .ok F r) : NW deep (2 * S + 300) F (t :: ts) r := by
  have hw := congrArg List.length (words_behind (t :: ts))
  rw [List.length_append, List.length_cons] at hw
  have hn := words_pos (ts := ts) hk
  have hwok : ∀ x ∈ wordsT (t :: ts), okW x.b := fun x hx => hg.ok x (words_sub hx) (wordsT_k _ x hx)
  have hwS := Nat.le_trans (words_S (t :: ts)) hg.S
  have hbs := behind_suf (t :: ts)
  unfold stmtF at h
  split at h
  · cases h
  · rename_i u us e
    rw [e] at hw hbs
    simp only [List.length_cons] at hw
    have hus : us <:+ t :: ts := (List.suffix_cons u us).trans hbs
    split at h
    · have hw2 := congrArg List.length (words_behind us)
      rw [List.length_append] at hw2
      have hg2 := hg.suf hus
      have hbs2 := behind_suf us
      split at h
      · cases h
      · rename_i v vs e2
        rw [e2] at hw2 hbs2
        simp only [List.length_cons] at hw2
        have hvs : vs <:+ t :: ts := ((List.suffix_cons v vs).trans hbs2).trans hus
        split at h
        · obtain ⟨h1, h2, k, h3, h4⟩ := tail_nw hd hn hwok hwS ((wordsT (t :: ts)).length + 1 + (wordsT us).length + 1) (by omega) (wr_leafs deep _ hwok _ (fun x hx => hg2.ok x (words_sub hx) (wordsT_k _ x hx))) (Nat.le_trans (wt_leafs _ hwS _ (Nat.le_trans (words_S us) hg2.S)) (Nat.mul_le_mul_left _ (by omega))) (fun hd o ws K q hs hl => hr hd o ws K q (hs.trans hvs) (by omega)) h
          exact ⟨h1, h2.trans hvs, _, by simp only [List.length_cons]; omega, h4⟩
        · cases h
    · obtain ⟨h1, h2, k, h3, h4⟩ := tail_nw hd hn hwok hwS (wordsT (t :: ts)).length hn (show WrF deep .nil from trivial) (by simp [wtF]) (fun hd o ws K q hs hl => hr hd o ws K q (hs.trans hbs) (by simp only [List.length_cons] at hl; omega)) h
      simp only [List.length_cons] at h3
      exact ⟨h1, h2.trans hbs, _, by simp only [List.length_cons]; omega, h4⟩
theorem list_nw (S : Nat) : ∀ (f deep : Nat) (op : Pl) (toks : List BTok) (F : Fo) (r : List BTok), deep ≤ 32 → GT S toks → listF f deep op toks = .ok F r → NW deep (2 * S + 300) F toks r := by
  intro f
  induction f with
  | zero => intro deep op toks F r _ _ h; cases h
  | succ f ih =>
    intro deep op toks F r hd hg h
    cases toks with
    | nil =>
      unfold listF at h
      split at h
      · cases h; exact ⟨trivial, List.suffix_refl _, 0, rfl, by simp [wtF]⟩
      · cases h
    | cons t ts =>
      unfold listF at h
      split at h
      · split at h
        · cases h
        · cases h; exact ⟨trivial, List.suffix_cons _ _, 1, by simp, by simp [wtF]⟩
      · split at h
        · rename_i k1
          split at h
          · rename_i G q e
            have h1 := stmt_nw (S := S) k1 hd hg (fun hd' o us K q' hs hl h' => ih (deep + 1) o us K q' (by omega) (hg.suf hs) h') e
            cases h2 : listF f deep op q with
            | err e l c => rw [h2] at h; cases h
            | ok H q' =>
              rw [h2] at h
              cases h
              obtain ⟨k1', hk1, hs1⟩ := h1.sz
              have h3 := ih deep op q H _ hd (hg.suf h1.suf) h2
              obtain ⟨k2, hk2, hs2⟩ := h3.sz
              refine ⟨wr_join _ _ _ h1.wr h3.wr, h3.suf.trans h1.suf, k1' + k2, by omega, ?_⟩
              rw [wt_app, Nat.mul_add]
              omega
          · cases h
        · cases h
theorem step_t (s : List UInt8) : (Lx.step s).t.length ≤ (Lx.step s).n := by
  unfold Lx.step
  simp only
  repeat' split
  all_goals first | exact Nat.zero_le _ | (simp only [List.length_take, List.length_drop]; omega)
def tsum : List Tok → Nat
  | [] => 0
  | t :: ts => t.t.length + tsum ts
theorem tsum_app : ∀ a b : List Tok, tsum (a ++ b) = tsum a + tsum b
  | [], b => by simp [tsum]
  | x :: xs, b => by rw [List.cons_append, tsum, tsum, tsum_app xs]; omega
theorem toks_sum : ∀ (f : Nat) (s : List UInt8) (l c : Int) (ts : List Tok), toks f s l c = .ok ts → tsum ts ≤ s.length
  | 0, _, _, _, ts, h => by cases h; exact Nat.zero_le _
  | f + 1, [], _, _, ts, h => by cases h; exact Nat.zero_le _
  | f + 1, x :: xs, l, c, ts, h => by
    rw [toks_step f _ l c (by simp)] at h
    cases he : (Lx.step (x :: xs)).err with
    | true => rw [he] at h; simp at h
    | false =>
      rw [he] at h
      have hn := step_n (x :: xs) (by simp) he
      have ht := step_t (x :: xs)
      simp only [Bool.false_eq_true, if_false] at h
      cases e : toks f ((x :: xs).drop (Lx.step (x :: xs)).n) (adv ((x :: xs).take (Lx.step (x :: xs)).n) l c).1 (adv ((x :: xs).take (Lx.step (x :: xs)).n) l c).2 with
      | error q => rw [e] at h; cases h
      | ok us =>
        rw [e] at h
        injection h with h
        subst h
        have h1 := toks_sum f _ _ _ us e
        rw [List.length_drop] at h1
        rw [tsum_app]
        split <;> simp only [tsum] <;> omega
theorem tkS_bs : ∀ ts : List Tok, tkS (bsOf ts) = tsum ts + 3 * ts.length
  | [] => rfl
  | t :: ts => by
    have := tkS_bs ts
    have e : bsOf (t :: ts) = ⟨t.k, ⟨t.t.toArray⟩, t.l, t.c⟩ :: bsOf ts := rfl
    have hs : (⟨t.t.toArray⟩ : ByteArray).size = t.t.length := by simp [ByteArray.size]
    rw [e, tkS, this, tsum, List.length_cons]
    simp only [hs]
    omega
theorem tsum_mem : ∀ {ts : List Tok} {t : Tok}, t ∈ ts → t.t.length ≤ tsum ts
  | y :: ys, t, h => by
    rcases List.mem_cons.1 h with rfl | h
    · rw [tsum]; omega
    · have := tsum_mem h; rw [tsum]; omega
theorem toks_len2 : ∀ (f : Nat) (s : List UInt8) (l c : Int) (ts : List Tok), toks f s l c = .ok ts → ts.length ≤ s.length
  | 0, _, _, _, ts, h => by cases h; simp
  | f + 1, [], _, _, ts, h => by cases h; simp
  | f + 1, x :: xs, l, c, ts, h => by
    rw [toks_step f _ l c (by simp)] at h
    cases he : (Lx.step (x :: xs)).err with
    | true => rw [he] at h; simp at h
    | false =>
      rw [he] at h
      have hn := step_n (x :: xs) (by simp) he
      simp only [Bool.false_eq_true, if_false] at h
      cases e : toks f ((x :: xs).drop (Lx.step (x :: xs)).n) (adv ((x :: xs).take (Lx.step (x :: xs)).n) l c).1 (adv ((x :: xs).take (Lx.step (x :: xs)).n) l c).2 with
      | error q => rw [e] at h; cases h
      | ok us =>
        rw [e] at h
        injection h with h
        subst h
        have h1 := toks_len2 f _ _ _ us e
        rw [List.length_drop] at h1
        rw [List.length_append]
        split <;> simp only [List.length_cons, List.length_nil] at hn h1 ⊢ <;> omega
theorem gt_toks (s : List UInt8) : GT 262144 (bsOf (tokRes s).1) ∧ (tokRes s).1.length ≤ 65536 := by
  have hgood := tokRes_good s
  have hb : tsum (tokRes s).1 ≤ 65536 ∧ (tokRes s).1.length ≤ 65536 := by
    unfold tokRes
    split
    · rename_i hc
      have hl := chk_len hc
      split
      · exact ⟨Nat.zero_le _, by simp⟩
      · rename_i us e
        exact ⟨Nat.le_trans (toks_sum _ _ _ _ _ e) hl, Nat.le_trans (toks_len2 _ _ _ _ _ e) hl⟩
    · exact ⟨Nat.zero_le _, by simp⟩
  refine ⟨⟨fun x hx hk => ?_, by rw [tkS_bs]; omega⟩, hb.2⟩
  unfold bsOf at hx
  obtain ⟨t, ht, rfl⟩ := List.mem_map.1 hx
  have hsz : (⟨t.t.toArray⟩ : ByteArray).size = t.t.length := by simp [ByteArray.size]
  refine ⟨?_, by simp only [hsz]; exact Nat.le_trans (tsum_mem ht) hb.1⟩
  have hT : T (⟨t.t.toArray⟩ : ByteArray) = t.t := by simp [T]
  simp only [hT]
  rcases hgood t ht with ⟨_, h⟩ | ⟨h, _⟩
  · rw [List.any_eq_false]
    intro x hx
    have hx := h x hx
    unfold badB
    have h1 : x.toNat ≠ 34 := fun e => hx.2 (by
      have : x = UInt8.ofNat 34 := by rw [← e]; simp
      exact this)
    have h2 := hx.1.1
    have h3 := hx.1.2
    simp only [Bool.or_eq_true, decide_eq_true_eq]
    omega
  · exact absurd hk h
/-- what Parse reads, Print writes -/
theorem parse_writes (s : List UInt8) (F : Fo) (r : List BTok) (h : parseF s = .ok F r) : (∃ t, writeF 0 F = some t) ∧ WB F ∧ wtF F ≤ 4398046511104 := by
  obtain ⟨hg, hl⟩ := gt_toks s
  unfold parseF at h
  split at h
  · have hn := list_nw 262144 _ _ _ _ _ _ (by omega) hg h
    refine ⟨wr_some F 0 hn.wr, wr_WB F 0 hn.wr, ?_⟩
    obtain ⟨k, hk, hs⟩ := hn.sz
    rw [bsOf_len] at hk
    have : (2 * 262144 + 300) * k ≤ (2 * 262144 + 300) * 65536 := Nat.mul_le_mul_left _ (by omega)
    omega
  · cases h
end Go.Proofs.Ytihmmmodimionaa.Tr
/- Good rows and their statements, in plain words; no program is in sight. -/
namespace Go.Proofs.Ytihmmmodimionaa.Tr
open Go.RowKit Go.Proofs.Ytihmmmodimionaa Go.Proofs.Ytihmmmodimionaa.Lx

/-- a row as it comes in: what stands at its words' places is not read -/
structure RowI where
  deep : Int
  ws : List ByteArray
  op : Bool
def posG (i n : Nat) : List Pl := (List.range n).map fun (k : Nat) => ((i : Int) + 1, (k : Int) + 1)
theorem posG_len (i n : Nat) : (posG i n).length = n := by simp [posG]
theorem posG_next (i n : Nat) : posG i (n + 1) = posG i n ++ [((i : Int) + 1, (n : Int) + 1)] := by simp [posG, List.range_succ]
def dG (x : Int) (d : Nat) : Nat := (min (max x 0) (d : Int)).toNat
theorem dG_le (x : Int) (d : Nat) : dG x d ≤ d := by unfold dG; omega
theorem dG_int (x : Int) (d : Nat) : ((dG x d : Nat) : Int) = min (max x 0) (d : Int) := by unfold dG; omega
def nG (op : Bool) (d : Nat) : Nat := if op = true ∧ d < 30 then d + 1 else d
theorem nG_le {op : Bool} {d : Nat} (h : d ≤ 30) : nG op d ≤ 30 := by unfold nG; split <;> omega
def goodR : Nat → Nat → List RowI → List RowD
  | _, _, [] => []
  | i, d, r :: rs => if 120 ≤ i then [] else if r.ws.length = 0 ∨ 8 < r.ws.length then goodR (i + 1) d rs
    else ⟨dG r.deep d, r.ws, posG i r.ws.length, r.op⟩ :: goodR (i + 1) (nG r.op (dG r.deep d)) rs
/-- rows as good makes them: d is as deep as the first one may stand -/
def okR : Nat → List RowD → Prop
  | _, [] => True
  | d, r :: rs => r.deep ≤ d ∧ 1 ≤ r.ws.length ∧ r.ws.length ≤ 8 ∧ r.ps.length = r.ws.length ∧ okR (nG r.op r.deep) rs
theorem good_ok : ∀ (L : List RowI) (i d : Nat), okR d (goodR i d L)
  | [], _, _ => trivial
  | r :: rs, i, d => by
    unfold goodR
    split
    · trivial
    · split
      · exact good_ok rs (i + 1) d
      · rename_i h
        refine ⟨dG_le _ _, by simp only; omega, by simp only; omega, posG_len _ _, good_ok rs _ _⟩
theorem good_len : ∀ (L : List RowI) (i d : Nat), (goodR i d L).length + i ≤ max i 120
  | [], i, _ => by simp [goodR]; omega
  | r :: rs, i, d => by
    unfold goodR
    split
    · simp; omega
    · split
      · have := good_len rs (i + 1) d; omega
      · have := good_len rs (i + 1) (nG r.op (dG r.deep d))
        rw [List.length_cons]
        omega
theorem good_words : ∀ (L : List RowI) (i d : Nat), ∀ r ∈ goodR i d L, ∃ q ∈ L, r.ws = q.ws
  | [], _, _, r, h => by cases h
  | q :: qs, i, d, r, h => by
    unfold goodR at h
    split at h
    · cases h
    · split at h
      · obtain ⟨q', h1, h2⟩ := good_words qs _ _ r h
        exact ⟨q', List.mem_cons_of_mem _ h1, h2⟩
      · rcases List.mem_cons.1 h with rfl | h
        · exact ⟨q, by simp, rfl⟩
        · obtain ⟨q', h1, h2⟩ := good_words qs _ _ r h
          exact ⟨q', List.mem_cons_of_mem _ h1, h2⟩
theorem okR_app : ∀ (a b : List RowD) (d : Nat), okR d (a ++ b) → okR d a ∧ ∃ d', okR d' b
  | [], b, d, h => ⟨trivial, d, h⟩
  | r :: rs, b, d, h => by
    obtain ⟨h1, h2, h3, h4, h5⟩ := h
    obtain ⟨h6, h7⟩ := okR_app rs b _ h5
    exact ⟨⟨h1, h2, h3, h4, h6⟩, h7⟩
theorem okR_head {d d' : Nat} {r : RowD} {rs : List RowD} (h : okR d (r :: rs)) (hd : r.deep ≤ d') : okR d' (r :: rs) := ⟨hd, h.2⟩
def inR (d : Nat) (rs : List RowD) : List RowD := rs.takeWhile fun q => decide (d < q.deep)
def outR (d : Nat) (rs : List RowD) : List RowD := rs.dropWhile fun q => decide (d < q.deep)
theorem in_out (d : Nat) (rs : List RowD) : inR d rs ++ outR d rs = rs := List.takeWhile_append_dropWhile
theorem inR_all {d : Nat} : ∀ {rs : List RowD}, ∀ r ∈ inR d rs, d + 1 ≤ r.deep
  | [], r, h => by cases h
  | q :: rs, r, h => by
    unfold inR at h
    rw [List.takeWhile_cons] at h
    split at h
    · rename_i hq
      rcases List.mem_cons.1 h with rfl | h
      · have h2 : d < r.deep := by simpa using hq
        exact h2
      · exact inR_all (rs := rs) r h
    · cases h
theorem in_len (d : Nat) (rs : List RowD) : (inR d rs).length + (outR d rs).length = rs.length := by
  rw [← List.length_append, in_out]
theorem outR_head {d : Nat} {rs : List RowD} {r : RowD} {us : List RowD} (h : outR d rs = r :: us) : r.deep ≤ d := by
  have h1 := List.head?_dropWhile_not (fun q : RowD => decide (d < q.deep)) rs
  rw [show rs.dropWhile (fun q : RowD => decide (d < q.deep)) = r :: us from h] at h1
  simpa using h1
/-- rows as statements -/
def nodesF : Nat → Nat → List RowD → Fo
  | 0, _, _ => .nil
  | _ + 1, _, [] => .nil
  | f + 1, d, r :: rs => .cons r.ws r.ps r.op (if r.op = true then nodesF f (d + 1) (inR d rs) else .nil) (nodesF f d (outR d rs))
theorem nodes_fuel : ∀ (f g d : Nat) (L : List RowD), L.length ≤ f → L.length ≤ g → nodesF f d L = nodesF g d L
  | 0, g, d, L, h, _ => by
    obtain rfl : L = [] := List.eq_nil_of_length_eq_zero (by omega)
    cases g <;> rfl
  | f + 1, 0, d, L, _, h => by
    obtain rfl : L = [] := List.eq_nil_of_length_eq_zero (by omega)
    rfl
  | f + 1, g + 1, d, [], _, _ => rfl
  | f + 1, g + 1, d, r :: rs, h, h' => by
    have hl := in_len d rs
    simp only [List.length_cons] at h h'
    rw [nodesF, nodesF, nodes_fuel f g (d + 1) (inR d rs) (by omega) (by omega), nodes_fuel f g d (outR d rs) (by omega) (by omega)]
/-- .. and back -/
theorem rows_nodes : ∀ (f d : Nat) (L : List RowD), L.length ≤ f → okR d L → (∀ r ∈ L, d ≤ r.deep) → rowsF d (nodesF f d L) = L
  | 0, d, L, h, _, _ => by
    obtain rfl : L = [] := List.eq_nil_of_length_eq_zero (by omega)
    rfl
  | f + 1, d, [], _, _, _ => rfl
  | f + 1, d, r :: rs, h, hok, hall => by
    have hl := in_len d rs
    simp only [List.length_cons] at h
    obtain ⟨h1, h2, h3, h4, h5⟩ := hok
    have hd : r.deep = d := Nat.le_antisymm h1 (hall r (by simp))
    have h5' := h5
    rw [← in_out d rs] at h5'
    obtain ⟨h6, d', h7⟩ := okR_app _ _ _ h5'
    have hout : okR d (outR d rs) := by
      cases ho : outR d rs with
      | nil => trivial
      | cons q us => rw [ho] at h7; exact okR_head h7 (outR_head ho)
    have hoa : ∀ q ∈ outR d rs, d ≤ q.deep := fun q hq => hall q (List.mem_cons_of_mem _ (by rw [← in_out d rs]; exact List.mem_append_right _ hq))
    have hR := rows_nodes f d (outR d rs) (by omega) hout hoa
    have hin : rowsF (d + 1) (if r.op = true then nodesF f (d + 1) (inR d rs) else .nil) = inR d rs := by
      by_cases hop : r.op = true ∧ d < 30
      · rw [if_pos hop.1]
        rw [hd, nG, if_pos hop] at h6
        exact rows_nodes f (d + 1) (inR d rs) (by omega) h6 inR_all
      · have he : inR d rs = [] := by
          cases hi : inR d rs with
          | nil => rfl
          | cons q us =>
            rw [hi, hd, nG, if_neg hop] at h6
            have h8 := h6.1
            have h9 := inR_all (d := d) (rs := rs) q (by rw [hi]; simp)
            omega
        rw [he]
        split
        · cases f <;> rfl
        · rfl
    rw [nodesF, rowsF, hR, hin, in_out, ← hd]
theorem good_rows (L : List RowI) : rowsF 0 (nodesF (goodR 0 0 L).length 0 (goodR 0 0 L)) = goodR 0 0 L :=
  rows_nodes _ _ _ (Nat.le_refl _) (good_ok L 0 0) (fun _ _ => Nat.zero_le _)
end Go.Proofs.Ytihmmmodimionaa.Tr
/- The document's reading: its state, fail, kind. -/
namespace Go.Proofs.Ytihmmmodimionaa.Tr
open Go.RowKit Go.Proofs.Ytihmmmodimionaa Go.Proofs.Ytihmmmodimionaa.Lx

abbrev StC (A : Option Addr) (n cap : Nat) (i : Nat) (vr vb : Value) (e l c : Int) : Obj := .cells #[.slice A n cap, .int .i64 i, vr, vb, .int .i64 e, .int .i64 l, .int .i64 c] 92
/-- the state of a reading -/
structure StX (w : World) (p : Nat) (A : Option Addr) (cap : Nat) (ts : List BTok) (i : Nat) (vr vb : Value) (e l c : Int) : Prop where
  h : w.heap[p]? = some (StC A ts.length cap i vr vb e l c)
  t : Src w A ts.length cap 4 (ts.flatMap BTok.cells)
  lt : ∀ a, A = some a → a.block < p
  il : i ≤ ts.length
  nl : ts.length ≤ 65536
theorem StX.below {w w' : World} {p : Nat} {A : Option Addr} {cap : Nat} {ts : List BTok} {i : Nat} {vr vb : Value} {e l c : Int} (h : StX w p A cap ts i vr vb e l c) (hb : Below w.heap.size w w') : StX w' p A cap ts i vr vb e l c :=
  ⟨heapB hb h.h, h.t.below hb, h.lt, h.il, h.nl⟩
/-- the token at hand -/
theorem StX.tok {w : World} {p : Nat} {A : Option Addr} {cap : Nat} {ts : List BTok} {i : Nat} {vr vb : Value} {e l c : Int} (h : StX w p A cap ts i vr vb e l c) (hi : i < ts.length) :
    ∃ b o, A = some ⟨b, o, none⟩ ∧ w.cell? ⟨b, o + i * 4, none⟩ = some (.int .u8 ts[i].k) ∧ w.cell? ⟨b, o + i * 4 + 1, none⟩ = some (.string ts[i].b) ∧ w.cell? ⟨b, o + i * 4 + 2, none⟩ = some (.int .i64 ts[i].l) ∧ w.cell? ⟨b, o + i * 4 + 3, none⟩ = some (.int .i64 ts[i].c) := by
  obtain ⟨b, o, rfl⟩ := src_spot h.t (by omega) (by decide)
  have hs := src_cells h.t
  have hc : ∀ (j : Nat) (u : Value), (BTok.cells ts[i])[j]? = some u → (ts.flatMap BTok.cells)[i * 4 + j]? = some u := by
    intro j u hj
    have h1 : ts = ts.take i ++ ts[i] :: ts.drop (i + 1) := by
      rw [List.getElem_cons_drop hi]
      simp
    have hl : ((ts.take i).flatMap BTok.cells).length = i * 4 := by
      rw [flat_len, List.length_take]
      omega
    have hj4 : j < (BTok.cells ts[i]).length := (List.getElem?_eq_some_iff.1 hj).1
    rw [h1, List.flatMap_append, List.getElem?_append_right (by omega), hl, Nat.add_sub_cancel_left, List.flatMap_cons]
    rw [List.getElem?_append_left hj4]
    exact hj
  refine ⟨b, o, rfl, ?_, ?_, ?_, ?_⟩
  · exact hs _ _ (hc 0 _ rfl)
  · have := hs _ _ (hc 1 _ rfl)
    rwa [← Nat.add_assoc] at this
  · have := hs _ _ (hc 2 _ rfl)
    rwa [← Nat.add_assoc] at this
  · have := hs _ _ (hc 3 _ rfl)
    rwa [← Nat.add_assoc] at this
set_option maxRecDepth 100000 in
theorem rfail_any (p : Nat) (A : Option Addr) (cap : Nat) (ts : List BTok) (i : Nat) (vr vb : Value) (e l c : Int) (w : World) (h : StX w p A cap ts i vr vb 0 0 0) :
    Calls Try.prog 45 #[.pointer (some ⟨p, 0, none⟩), .int .i64 e, .agg #[.int .i64 l, .int .i64 c]] w fun e' w' => e' = .returned (.tuple #[]) ∧ Only p w w' ∧ StX w' p A cap ts i vr vb e l c := by
  have hp := lt_heap h.h
  have p4 := cell_heap (j := 4) h.h rfl
  have p5 := cell_heap (j := 5) h.h rfl
  have p6 := cell_heap (j := 6) h.h rfl
  have f4 := frozen_heap (j := 4) h.h
  have f5 := frozen_heap (j := 5) h.h
  have f6 := frozen_heap (j := 6) h.h
  have HH := hide h
  clear h
  go_enter Try.func45, Try.ntmps45
  go_wp2_with fail
  go_end0
  refine ⟨rfl, only_alloc (only_set (only_set (only_set (only_refl p w) 4 _) 5 _) 6 _) _, ?_, ?_, HH.out.lt, HH.out.il, HH.out.nl⟩
  · have h3 := heap_set (j := 6) (u := .int .i64 c) (heap_set (j := 5) (u := .int .i64 l) (heap_set (j := 4) (u := .int .i64 e) HH.out.h))
    exact heap_old (w := ((w.setCell ⟨p, 4, none⟩ (.int .i64 e)).setCell ⟨p, 5, none⟩ (.int .i64 l)).setCell ⟨p, 6, none⟩ (.int .i64 c)) h3
  · refine src_keep HH.out.t (fun a ha => ?_)
    have h1 := HH.out.lt a ha
    exact (only_alloc (only_set (only_set (only_set (only_refl p w) 4 _) 5 _) 6 _) _).block a.block (by omega) (fun e => by injection e with e; omega)
set_option maxRecDepth 100000 in
theorem rkind_any (p : Nat) (A : Option Addr) (cap : Nat) (ts : List BTok) (i : Nat) (vr vb : Value) (e l c : Int) (w : World) (h : StX w p A cap ts i vr vb e l c) :
    Calls Try.prog 43 #[.pointer (some ⟨p, 0, none⟩)] w fun e' w' => e' = .returned (.int .u8 (kindT (ts.drop i))) ∧ Below w.heap.size w w' := by
  have p0 := lat_cell (cell_heap (j := 0) h.h rfl)
  have p1 := lat_cell (cell_heap (j := 1) h.h rfl)
  have q0 := cell_heap (j := 0) h.h rfl
  have q1 := cell_heap (j := 1) h.h rfl
  have hil := h.il
  rcases Nat.lt_or_ge i ts.length with hlt | hge
  · obtain ⟨b, o, rfl, t0, -, -, -⟩ := h.tok hlt
    have s0 := lat_cell t0
    have d1 : decide (ts.length ≤ i) = false := decide_eq_false (by omega)
    have d1' : decide ((ts.length : Int) ≤ (i : Int)) = false := decide_eq_false (by omega)
    have d2 : ((i : Int) < (ts.length : Int)) := by omega
    have hk : kindT (ts.drop i) = ts[i].k := by rw [List.drop_eq_getElem_cons hlt]; rfl
    rw [hk]
    generalize ts[i].k = k at *
    clear h hk
    go_enter Try.func43, Try.ntmps43
    go_wp2_with fail
    refine wp_region_lat (by kernel_rfl) (by kernel_rfl) ?_
    repeat (first | go_big_quiet_step ((fail)) | quiet_step ((fail)))
    refine wpQuiet_nil ?_
    intro _ hlat
    obtain ⟨wq, rfl⟩ := hlat
    go_wp2_with fail
    have r0 := lat_cell (p0 wq)
    have r1 := lat_cell (p1 wq)
    have s1 := lat_cell (s0 wq)
    have HQ := hide (lat_below w wq)
    generalize lat w wq = w1 at *
    refine wp_region_lat (by kernel_rfl) (by kernel_rfl) ?_
    repeat (first | go_big_quiet_step ((fail)) | quiet_step ((fail)))
    refine wpQuiet_nil ?_
    intro _ hlat
    obtain ⟨wq, rfl⟩ := hlat
    go_wp2_with fail
    go_ret
    exact ⟨rfl, below_wide HQ.out (lat_below _ _)⟩
  · have d1 : decide (ts.length ≤ i) = true := decide_eq_true (by omega)
    have d1' : decide ((ts.length : Int) ≤ (i : Int)) = true := decide_eq_true (by omega)
    have hk : kindT (ts.drop i) = 0 := by rw [List.drop_eq_nil_of_le (by omega)]; rfl
    rw [hk]
    clear h hk
    go_enter Try.func43, Try.ntmps43
    go_wp2_with fail
    refine wp_region_lat (by kernel_rfl) (by kernel_rfl) ?_
    repeat (first | go_big_quiet_step ((fail)) | quiet_step ((fail)))
    refine wpQuiet_nil ?_
    intro _ hlat
    obtain ⟨wq, rfl⟩ := hlat
    go_wp2_with fail
    go_ret
    exact ⟨rfl, lat_below _ _⟩
end Go.Proofs.Ytihmmmodimionaa.Tr
/- The document's reading: an append from a slice that may be nil, at an operation, and where the new slice lies; what a taken word leaves. -/
namespace Go.Proofs.Ytihmmmodimionaa.Tr
open Go.RowKit Go.Proofs.Ytihmmmodimionaa Go.Proofs.Ytihmmmodimionaa.Lx

theorem wp_src {P : Program} {w : World} {o : Oper} {a : Act} {K : Act → World → Prop} {Q : Exit → Act → World → Prop} (s x : Operand) (t : TypeId)
    (ho : o.op = .call { callee := .builtin .append, args := #[s, x], argTypes := #[t, t] })
    (base : Nat) (e : TypeId) (i : TypeInfo) (z : Value) (size bytes : Nat) (ht : P.underlying t = some (.slice e)) (hi : P.info? e = some i) (hz : i.zero = some z)
    (hsize : i.size = size) (hby : i.bytes = bytes) (hzs : z.cells.size = size) (hsz : 0 < size)
    (v : Value) (n : Nat) (xs : List Value) (hs : a.eval s = v) (hown : w.ownsRow base e size v n xs)
    (A : Option Addr) (m c : Nat) (news : List Value) (hx : a.eval x = .slice A m c) (hsrc : Src w A m c size news) (h1 : ∀ u ∈ news, u.oneCell' = true)
    (h63 : n + m ≤ maxLen) (hbytes : (n + m) * bytes ≤ 140737488355328) (hbase : base ≤ w.heap.size)
    (h : ∀ v' w', w'.ownsRow base e size v' (n + m) (xs ++ news) → w.grownBy w' v.ownBlock → (v'.ownBlock = v.ownBlock ∨ v'.ownBlock = some w.heap.size) → K (a.put o.dst v') w') : o.wp P a w K Q := by
  obtain ⟨hl, ⟨rfl, rfl, rfl⟩ | ⟨ad, rfl, hc⟩⟩ := hsrc
  · have hn : news = [] := List.eq_nil_of_length_eq_zero (by simpa using hl)
    subst hn
    have hrun := run_append_owned_none (P := P) (w := w) base t o.type e i size ht hi v n xs hown
    unfold Oper.wp
    simp [execOp, ho, resolve, invoke, builtin, hs, hx, hrun, Result.andThen]
    exact h v w (by simpa using hown) (World.grownBy.refl w _) (.inl rfl)
  · obtain ⟨v', w', hr, h2, h3, _, h5⟩ := run_append_own_at (P := P) w base t o.type e i z size bytes ht hi hz hsize hby hzs hsz v n xs hown ad m c news hl hc h1 h63 hbytes hbase
    unfold Oper.wp execOp
    simp only [ho, resolve, invoke, builtin, Sem.run_bind, Sem.run_pure, Result.andThen_ok, List.map_toArray, List.map_cons, List.map_nil, hs, hx, hr]
    exact h v' w' h2 h3 h5
theorem wpL_src {P : Program} {w : World} {ops : Array Oper} {rest : List Oper} {o : Oper} {a : Act} {Q : Exit → Act → World → Prop} (hgd : o.guard = none) (s x : Operand) (t : TypeId)
    (ho : o.op = .call { callee := .builtin .append, args := #[s, x], argTypes := #[t, t] })
    (base : Nat) (e : TypeId) (i : TypeInfo) (z : Value) (size bytes : Nat) (ht : P.underlying t = some (.slice e)) (hi : P.info? e = some i) (hz : i.zero = some z)
    (hsize : i.size = size) (hby : i.bytes = bytes) (hzs : z.cells.size = size) (hsz : 0 < size)
    (v : Value) (n : Nat) (xs : List Value) (hs : a.eval s = v) (hown : w.ownsRow base e size v n xs)
    (A : Option Addr) (m c : Nat) (news : List Value) (hx : a.eval x = .slice A m c) (hsrc : Src w A m c size news) (h1 : ∀ u ∈ news, u.oneCell' = true)
    (h63 : n + m ≤ maxLen) (hbytes : (n + m) * bytes ≤ 140737488355328) (hbase : base ≤ w.heap.size)
    (h : ∀ v' w', w'.ownsRow base e size v' (n + m) (xs ++ news) → w.grownBy w' v.ownBlock → (v'.ownBlock = v.ownBlock ∨ v'.ownBlock = some w.heap.size) → wpList P ops Q rest (a.put o.dst v') w') : wpList P ops Q (o :: rest) a w :=
  wpList_plain hgd fun _ hK => wp_src s x t ho base e i z size bytes ht hi hz hsize hby hzs hsz v n xs hs hown A m c news hx hsrc h1 h63 hbytes hbase (fun v' w' h2 h3 h4 => hK _ _ (h v' w' h2 h3 h4))
theorem src_row {w : World} {g n size : Nat} {cs : List Value} {t : TypeId} (h : w.heap[g]? = some (.cells cs.toArray t (0, 0))) (hl : cs.length = n * size) : Src w (some ⟨g, 0, none⟩) n n size cs :=
  ⟨hl, .inr ⟨_, rfl, row_at h⟩⟩
theorem str_one {ws : List ByteArray} {u : Value} (h : u ∈ ws.map Value.string) : u.oneCell' = true := by
  obtain ⟨q, _, rfl⟩ := List.mem_map.1 h
  rfl
/-- the row that a word's taking keeps in a box -/
theorem row_box {w x : World} {rb : Nat} {d : Int} {vw vp u : Value} {b : Bool} (h : w.heap[rb]? = some (RowC d vw vp b)) (hb : Below w.heap.size w x) : (x.setCell ⟨rb, 1, none⟩ u).heap[rb]? = some (RowC d u vp b) :=
  heap_set (j := 1) (heapB hb h)
theorem row_box2 {w x : World} {rb : Nat} {d : Int} {vw vp u : Value} {b : Bool} (h : w.heap[rb]? = some (RowC d vw vp b)) (hb : Below w.heap.size w x) : (x.setCell ⟨rb, 2, none⟩ u).heap[rb]? = some (RowC d vw u b) :=
  heap_set (j := 2) (heapB hb h)
theorem own_cell {x : World} {base size n rb j : Nat} {e t : TypeId} {v u : Value} {xs : List Value} {cs : Array Value} (h : x.ownsRow base e size v n xs) (hg : x.heap[rb]? = some (.cells cs t (0, 0))) (hne : e ≠ t) : (x.setCell ⟨rb, j, none⟩ u).ownsRow base e size v n xs :=
  own_kept h (only_set (only_refl rb x) j u) (fun g hg' => by cases hg'; exact own_ne_row h hg hne)
theorem only_new {R q j : Nat} {w x : World} (h : Only R w x) (hq : w.heap.size ≤ q) (u : Value) : Only R w (x.setCell ⟨q, j, none⟩ u) :=
  ⟨h.os, h.tape, h.output, by simpa using h.size, fun k hk hne => (Below.heap_setCell x ⟨q, j, none⟩ u k (by show k ≠ q; omega)).trans (h.block k hk hne)⟩
abbrev four (x : World) (q : Nat) (a b c d : Value) : World := (((x.setCell ⟨q, 0, none⟩ a).setCell ⟨q, 1, none⟩ b).setCell ⟨q, 2, none⟩ c).setCell ⟨q, 3, none⟩ d
theorem only_four {R q : Nat} {w x : World} (h : Only R w x) (hq : w.heap.size ≤ q) (a b c d : Value) : Only R w (four x q a b c d) := only_new (only_new (only_new (only_new h hq a) hq b) hq c) hq d
theorem own_four {x : World} {base size n q : Nat} {e t : TypeId} {v : Value} {xs : List Value} {cs : Array Value} (h : x.ownsRow base e size v n xs) (hg : x.heap[q]? = some (.cells cs t (0, 0))) (hne : e ≠ t) (a b c d : Value) : (four x q a b c d).ownsRow base e size v n xs :=
  own_cell (own_cell (own_cell (own_cell h hg hne) (heap_set hg) hne) (heap_set (heap_set hg)) hne) (heap_set (heap_set (heap_set hg))) hne
theorem far_four {x : World} {g q : Nat} {o : Obj} (h : x.heap[g]? = some o) (hne : g ≠ q) (a b c d : Value) : (four x q a b c d).heap[g]? = some o :=
  heap_far (p := ⟨q, 3, none⟩) (heap_far (p := ⟨q, 2, none⟩) (heap_far (p := ⟨q, 1, none⟩) (heap_far (p := ⟨q, 0, none⟩) h hne) hne) hne) hne
theorem StX.next {w x : World} {p : Nat} {A : Option Addr} {cap : Nat} {ts : List BTok} {i : Nat} {vr vb : Value} {e l c : Int} (h : StX w p A cap ts i vr vb e l c) (hi : i < ts.length) (ho : Only p w x) (hx : x.heap[p]? = some (StC A ts.length cap (i + 1) vr vb e l c)) : StX x p A cap ts (i + 1) vr vb e l c :=
  ⟨hx, src_keep h.t (fun a ha => ho.block a.block (Nat.lt_trans (h.lt a ha) (lt_heap h.h)) (fun e => by injection e with e; have := h.lt a ha; omega)), h.lt, hi, h.nl⟩
def WordOut (p : Nat) (A : Option Addr) (cap : Nat) (ts : List BTok) (i : Nat) (vr vb : Value) (e l c : Int) (d : Int) (ws : List ByteArray) (ps : List Pl) (b : Bool) (t : BTok) (w : World) (e' : Ending) (w' : World) : Prop :=
  Only p w w' ∧ StX w' p A cap ts (i + 1) vr vb e l c ∧ ∃ vw vp, e' = .returned (.agg #[.int .i64 d, vw, vp, .bool b]) ∧ w'.ownsRow w.heap.size 9 1 vw (ws.length + 1) (ws.map Value.string ++ [.string t.b]) ∧ w'.ownsRow w.heap.size 24 2 vp (ps.length + 1) (posC ps ++ [.int .i64 t.l, .int .i64 t.c])
end Go.Proofs.Ytihmmmodimionaa.Tr
