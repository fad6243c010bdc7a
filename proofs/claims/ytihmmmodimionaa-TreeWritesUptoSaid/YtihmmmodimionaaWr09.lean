/- What the claim leans on, part 9 of 16: UX VA VB. -/
import Derived.Test.YtihmmmodimionaaWr01
import Derived.Test.YtihmmmodimionaaWr02
import Derived.Test.YtihmmmodimionaaWr03
import Derived.Test.YtihmmmodimionaaWr04
import Derived.Test.YtihmmmodimionaaWr05
import Derived.Test.YtihmmmodimionaaWr06
import Derived.Test.YtihmmmodimionaaWr07
import Derived.Test.YtihmmmodimionaaWr08
/- rows: statements as rows: the walk (printed by gen_ux.py). -/
namespace Go.Proofs.Ytihmmmodimionaa.Tr
open Go.RowKit Go.Proofs.Ytihmmmodimionaa Go.Proofs.Ytihmmmodimionaa.Lx

theorem posC_one {ps : List (Int × Int)} {u : Value} (h : u ∈ posC ps) : u.oneCell' = true := by
  unfold posC at h
  obtain ⟨q, _, hq⟩ := List.mem_flatMap.1 h
  simp at hq
  rcases hq with rfl | rfl <;> rfl
set_option maxHeartbeats 8000000 in
set_option maxRecDepth 100000 in
theorem rowsG_any : ∀ (n : Nat) (F : Fo), F.nodes = n → ∀ (d : Nat) (A : Option Addr) (c : Nat) (xs : List Value) (D : Nat → Prop) (w : World), Src w A F.len c 4 xs → FoV w D F xs → (∀ q, D q → q < w.heap.size) → (∀ a, A = some a → a.block < w.heap.size) → szF F ≤ 1099511627776 → Gd F → dpF d F = true → d ≤ 61 →
    Calls Try.prog 18 #[.slice A F.len c, .int .i64 d] w (RowsOut d F w) := by
  intro n
  induction n using Nat.strongRecOn with
  | _ n ih =>
  intro F hn d A c xs D w hs hf hD hA hsz hgd hdp hd
  obtain ⟨si, sz0, sz, ss, sb2⟩ := info_parts infoS
  obtain ⟨qi, qz0, qz, qs, qb⟩ := info_parts infoP
  obtain ⟨ri, rz0, rz, rss, rb⟩ := info_parts infoR
  by_cases h60 : d = 61
  · have hF : F = .nil := by
      cases F with
      | nil => rfl
      | cons ws ps b K R => rw [dpF, h60] at hdp; simp at hdp
    have e1 : decide (60 < d) = true := decide_eq_true (by omega)
    have e1' : decide ((60 : Int) < (d : Int)) = true := decide_eq_true (by omega)
    have HF := hide hF
    clear hs hf hD hA hsz hgd ih hdp h60 hF
    go_enter Try.func18, Try.ntmps18
    go_wp2_with fail
    go_ret
    exact ⟨Below.refl _ _, _, [], fun _ => False, rfl, ⟨by rw [HF.out]; exact ⟨rfl, .inl ⟨rfl, rfl⟩⟩, by rw [HF.out]; rfl, fun b h => h.elim⟩, fun _ => rfl⟩
  have e1 : decide (60 < d) = false := decide_eq_false (by omega)
  have e1' : decide ((60 : Int) < (d : Int)) = false := decide_eq_false (by omega)
  have HIH := hide ih
  have HS := hide hs
  have HST := hide (show RwL w w (.slice none 0 0) d F 0 .nil F [] xs (fun _ => False) D from ⟨Below.refl _ _, ⟨⟨rfl, .inl ⟨rfl, rfl⟩⟩, rfl, fun b h => h.elim⟩, by simpa using hf, by simp, rfl, Nat.le_refl _, by simp [szF], hgd, hdp, rfl, fun _ => rfl⟩)
  have hFl : F.len ≤ 1099511627776 := Nat.le_trans (len_sz F) hsz
  have HD := hide hD
  have HA := hide hA
  have HN := hide hn
  have HZ := hide hsz
  clear hs hf hD hA hsz hgd ih hn hdp
  go_enter Try.func18, Try.ntmps18
  go_wp2_with fail
  go_loopw [5, 6] (fun va j wr => ∃ (i : Nat) (Fd R : Fo) (ys : List Value) (B : Nat → Prop), j = .int .i64 i ∧ RwL w wr va d F i Fd R ys xs B D) (fun _ j _ => F.len - (intOf j).toNat)
  case atStart => exact ⟨0, .nil, F, [], _, rfl, HST.out⟩
  case round =>
    clear HST
    obtain ⟨i, Fd, R, zs, B, rfl, hX⟩ := hrel
    obtain ⟨Av, cv, rfl⟩ := own_slice hX.ro.own
    have HDL := hide hX.dl
    have HX := hide hX
    clear hX
    cases R with
    | nil =>
      have hi : i = F.len := by have := HX.out.len; simpa [Fo.len] using this
      have d1 : decide (i < F.len) = false := decide_eq_false (by omega)
      have d1' : decide ((i : Int) < (F.len : Int)) = false := decide_eq_false (by omega)
      have he : Fd = F := by have := HX.out.eq; rwa [Fo.app_nil] at this
      have HL := hide (show Ro w wr (.slice Av (rowsF d Fd).length cv) (rowsF d F) zs B ∧ (F = .nil → (Value.slice Av (rowsF d Fd).length cv) = .slice none 0 0) from by
        have h1 := HX.out.ro
        have h2 := HX.out.nl
        rw [← he]
        exact ⟨h1, h2⟩)
      clear hi he
      go_wp2_with fail
      go_ret
      exact ⟨HX.out.bl, _, _, _, rfl, HL.out.1, HL.out.2⟩
    | cons ws ps blk K R =>
      have hlen : i + (R.len + 1) = F.len := HX.out.len
      have d1 : decide (i < F.len) = true := decide_eq_true (by omega)
      have d1' : decide ((i : Int) < (F.len : Int)) = true := decide_eq_true (by omega)
      have d2 : ((i : Int) < (F.len : Int)) := by omega
      obtain ⟨vw, vp, Ak, ck, ks, g0, g1, g2, g3, hvw, hvp, hks, hkA, hkF, hRF⟩ := drop_fo HX.out.fo
      obtain ⟨ab, ao, rfl⟩ := src_spot HS.out (by omega) (by decide)
      have hadB := HA.out _ rfl
      have hsc := src_cells HS.out
      obtain ⟨Aw, cw, rfl, hws, hwB⟩ := hvw
      obtain ⟨Ap, cp, rfl, hps, hpB⟩ := hvp
      have HCEL := hide (show ∀ x, Below w.heap.size w x → NS ab (ao + i * 4) (.slice Aw ws.length cw) (.slice Ap ps.length cp) (.bool blk) (.slice Ak K.len ck) x from fun x hx =>
        ⟨cell_lo (a := ⟨ab, ao + i * 4, none⟩) hx hadB (hsc _ _ g0), cell_lo (a := ⟨ab, ao + i * 4 + 1, none⟩) hx hadB (by rw [Nat.add_assoc]; exact hsc _ _ g1), cell_lo (a := ⟨ab, ao + i * 4 + 2, none⟩) hx hadB (by rw [Nat.add_assoc]; exact hsc _ _ g2), cell_lo (a := ⟨ab, ao + i * 4 + 3, none⟩) hx hadB (by rw [Nat.add_assoc]; exact hsc _ _ g3)⟩)
      have HNS := hide (HCEL.out wr HX.out.bl)
      have HWS := hide (hws.below HX.out.bl)
      have HPS := hide (hps.below HX.out.bl)
      have hno : Fo.nodes (.cons ws ps blk K R) = K.nodes + R.nodes + 1 := rfl
      have HNO := hide (show K.nodes < n ∧ R.nodes ≤ F.nodes from by have h1 := HX.out.nodes; have h2 := HN.out; omega)
      have hszR : szF (.cons ws ps blk K R) = ws.length + ps.length + 1 + szF K + szF R := rfl
      have hszb : szF Fd + (ws.length + ps.length + 1 + szF K + szF R) ≤ szF F := by have h1 := HX.out.sz; omega
      have HSR := hide hszb
      have hdp := HX.out.dp
      rw [dpF, Bool.and_eq_true, Bool.and_eq_true] at hdp
      have hd60 := of_decide_eq_true hdp.1
      have HDP := hide hdp.2.2
      have hgg := HX.out.gd
      have hg1 := hgg.1
      have hg2 := hgg.2.1
      have HGR := hide hgg.2.2.2
      have hzz := HZ.out
      have hkl : K.len ≤ 1099511627776 := by have h1 := len_sz K; omega
      have hwl : ws.length ≤ 1099511627776 := by omega
      have hpl : ps.length ≤ 1099511627776 := by omega
      have hrl : (rowsF d Fd).length + 1 + (rowsF (d + 1) K).length ≤ 1099511627776 := by have h1 := rows_len Fd d; have h2 := rows_len K (d + 1); omega
      have HRCF := hide (fun (x : World) (hx : Below w.heap.size w x) => HIH.out K.nodes HNO.out.1 K rfl (d + 1) Ak ck ks D x (hks.below hx) (hkF.keep (fun q hq => hx.block q (HD.out q hq))) (fun q hq => Nat.lt_of_lt_of_le (HD.out q hq) hx.size) (fun a ha => Nat.lt_of_lt_of_le (HD.out _ (hkA a ha)) hx.size) (by omega) hgg.2.2.1 hdp.2.1 (by omega))
      have HRF := hide hRF
      have HLEN := hide hlen
      have hns : NS ab (ao + i * 4) (.slice Aw ws.length cw) (.slice Ap ps.length cp) (.bool blk) (.slice Ak K.len ck) wr.drew := ⟨HNS.out.c0, HNS.out.c1, HNS.out.c2, HNS.out.c3⟩
      have HNSD := hide hns
      have k0 := fun x => (pin_in hns x).c0
      have k1 := fun x => (pin_in hns x).c1
      have k2 := fun x => (pin_in hns x).c2
      have k3 := fun x => (pin_in hns x).c3
      have HB := hide (Below.refl wr.heap.size wr).drew
      clear hsc g0 g1 g2 g3 hks hkA hkF hRF hws hwB hps hpB hno hszR hszb hdp hgg hzz hns hlen hadB HIH
      go_wp2_with fail
      refine wp_region_tree (NS ab (ao + i * 4) (.slice Aw ws.length cw) (.slice Ap ps.length cp) (.bool blk) (.slice Ak K.len ck)) (fun k => ([23, 24] : List Nat).contains k) (.take [0, 1, 3, 4, 5, 6, 7, 10, 11, 12, 13, 14, 16, 17, 18, 19, 20] (.fork 2 (.fork 8 (.step 9 (.step 15 (.step 21 (.step 22 (.step 23 (.step 24 .done)))))) 9 (.step 8 (.step 15 (.step 21 (.step 22 (.step 23 (.step 24 .done))))))) 9 (.step 2 (.step 8 (.step 15 (.step 21 (.step 22 (.step 23 (.step 24 .done))))))))) (by kernel_rfl) (by kernel_rfl) (by kernel_rfl) (by kernel_rfl) (.take (.cons (.zero) (.cons (.succ (.zero)) (.cons (.succ (.succ (.succ (.zero)))) (.cons (.succ (.succ (.succ (.succ (.zero))))) (.cons (.succ (.succ (.succ (.succ (.succ (.zero)))))) (.cons (.succ (.succ (.succ (.succ (.succ (.succ (.zero))))))) (.cons (.succ (.succ (.succ (.succ (.succ (.succ (.succ (.zero)))))))) (.cons (.succ (.succ (.succ (.succ (.succ (.succ (.succ (.succ (.succ (.succ (.zero))))))))))) (.cons (.succ (.succ (.succ (.succ (.succ (.succ (.succ (.succ (.succ (.succ (.succ (.zero)))))))))))) (.cons (.succ (.succ (.succ (.succ (.succ (.succ (.succ (.succ (.succ (.succ (.succ (.succ (.zero))))))))))))) (.cons (.succ (.succ (.succ (.succ (.succ (.succ (.succ (.succ (.succ (.succ (.succ (.succ (.succ (.zero)))))))))))))) (.cons (.succ (.succ (.succ (.succ (.succ (.succ (.succ (.succ (.succ (.succ (.succ (.succ (.succ (.succ (.zero))))))))))))))) (.cons (.succ (.succ (.succ (.succ (.succ (.succ (.succ (.succ (.succ (.succ (.succ (.succ (.succ (.succ (.succ (.succ (.zero))))))))))))))))) (.cons (.succ (.succ (.succ (.succ (.succ (.succ (.succ (.succ (.succ (.succ (.succ (.succ (.succ (.succ (.succ (.succ (.succ (.zero)))))))))))))))))) (.cons (.succ (.succ (.succ (.succ (.succ (.succ (.succ (.succ (.succ (.succ (.succ (.succ (.succ (.succ (.succ (.succ (.succ (.succ (.zero))))))))))))))))))) (.cons (.succ (.succ (.succ (.succ (.succ (.succ (.succ (.succ (.succ (.succ (.succ (.succ (.succ (.succ (.succ (.succ (.succ (.succ (.succ (.zero)))))))))))))))))))) (.cons (.succ (.succ (.succ (.succ (.succ (.succ (.succ (.succ (.succ (.succ (.succ (.succ (.succ (.succ (.succ (.succ (.succ (.succ (.succ (.succ (.zero))))))))))))))))))))) .nil))))))))))))))))) (.fork (.succ (.succ (.zero))) rfl (.fork (.succ (.succ (.succ (.succ (.succ (.succ (.succ (.succ (.zero))))))))) rfl (.step (.succ (.succ (.succ (.succ (.succ (.succ (.succ (.succ (.succ (.zero)))))))))) rfl (.step (.succ (.succ (.succ (.succ (.succ (.succ (.succ (.succ (.succ (.succ (.succ (.succ (.succ (.succ (.succ (.zero)))))))))))))))) rfl (.step (.succ (.succ (.succ (.succ (.succ (.succ (.succ (.succ (.succ (.succ (.succ (.succ (.succ (.succ (.succ (.succ (.succ (.succ (.succ (.succ (.succ (.zero)))))))))))))))))))))) rfl (.step (.succ (.succ (.succ (.succ (.succ (.succ (.succ (.succ (.succ (.succ (.succ (.succ (.succ (.succ (.succ (.succ (.succ (.succ (.succ (.succ (.succ (.succ (.zero))))))))))))))))))))))) rfl (.step (.succ (.succ (.succ (.succ (.succ (.succ (.succ (.succ (.succ (.succ (.succ (.succ (.succ (.succ (.succ (.succ (.succ (.succ (.succ (.succ (.succ (.succ (.succ (.zero)))))))))))))))))))))))) rfl (.step (.succ (.succ (.succ (.succ (.succ (.succ (.succ (.succ (.succ (.succ (.succ (.succ (.succ (.succ (.succ (.succ (.succ (.succ (.succ (.succ (.succ (.succ (.succ (.succ (.zero))))))))))))))))))))))))) rfl .done)))))) (.succ (.succ (.succ (.succ (.succ (.succ (.succ (.succ (.succ (.zero)))))))))) rfl (.step (.succ (.succ (.succ (.succ (.succ (.succ (.succ (.succ (.zero))))))))) rfl (.step (.succ (.succ (.succ (.succ (.succ (.succ (.succ (.succ (.succ (.succ (.succ (.succ (.succ (.succ (.succ (.zero)))))))))))))))) rfl (.step (.succ (.succ (.succ (.succ (.succ (.succ (.succ (.succ (.succ (.succ (.succ (.succ (.succ (.succ (.succ (.succ (.succ (.succ (.succ (.succ (.succ (.zero)))))))))))))))))))))) rfl (.step (.succ (.succ (.succ (.succ (.succ (.succ (.succ (.succ (.succ (.succ (.succ (.succ (.succ (.succ (.succ (.succ (.succ (.succ (.succ (.succ (.succ (.succ (.zero))))))))))))))))))))))) rfl (.step (.succ (.succ (.succ (.succ (.succ (.succ (.succ (.succ (.succ (.succ (.succ (.succ (.succ (.succ (.succ (.succ (.succ (.succ (.succ (.succ (.succ (.succ (.succ (.zero)))))))))))))))))))))))) rfl (.step (.succ (.succ (.succ (.succ (.succ (.succ (.succ (.succ (.succ (.succ (.succ (.succ (.succ (.succ (.succ (.succ (.succ (.succ (.succ (.succ (.succ (.succ (.succ (.succ (.zero))))))))))))))))))))))))) rfl .done))))))) (.succ (.succ (.succ (.succ (.succ (.succ (.succ (.succ (.succ (.zero)))))))))) rfl (.step (.succ (.succ (.zero))) rfl (.step (.succ (.succ (.succ (.succ (.succ (.succ (.succ (.succ (.zero))))))))) rfl (.step (.succ (.succ (.succ (.succ (.succ (.succ (.succ (.succ (.succ (.succ (.succ (.succ (.succ (.succ (.succ (.zero)))))))))))))))) rfl (.step (.succ (.succ (.succ (.succ (.succ (.succ (.succ (.succ (.succ (.succ (.succ (.succ (.succ (.succ (.succ (.succ (.succ (.succ (.succ (.succ (.succ (.zero)))))))))))))))))))))) rfl (.step (.succ (.succ (.succ (.succ (.succ (.succ (.succ (.succ (.succ (.succ (.succ (.succ (.succ (.succ (.succ (.succ (.succ (.succ (.succ (.succ (.succ (.succ (.zero))))))))))))))))))))))) rfl (.step (.succ (.succ (.succ (.succ (.succ (.succ (.succ (.succ (.succ (.succ (.succ (.succ (.succ (.succ (.succ (.succ (.succ (.succ (.succ (.succ (.succ (.succ (.succ (.zero)))))))))))))))))))))))) rfl (.step (.succ (.succ (.succ (.succ (.succ (.succ (.succ (.succ (.succ (.succ (.succ (.succ (.succ (.succ (.succ (.succ (.succ (.succ (.succ (.succ (.succ (.succ (.succ (.succ (.zero))))))))))))))))))))))))) rfl .done))))))))) ?hQ ?hS ?_
      case hQ => exact fun _ _ _ _ _ h => h
      case hS => exact HNSD.out
      refine wpT_take ?_
      repeat (first | go_big_quiet_step ((fail)) | quiet_step ((fail)))
      refine wpQuiet_nil ?_
      generalize wr.drew = x0 at *
      refine wpT_fork ?_ ?_
      · refine wpT_step rfl ?_
        intro K1 hK1
        go_wp2_with fail
        have HBq := hide (HB.out.alloc HB.out.size (Obj.cells #[] 9))
        have HOW := hide (World.ownsRow_made (e := 9) (size := 1) (base := wr.heap.size) x0 #[] 0 HB.out.size (Nat.zero_le _) rfl)
        refine hK1.out _ _ (fun _ => pin_mem (HNS.out.below HBq.out)) ?_
        clear HB hK1; have HB := HBq; clear HBq
        generalize hb_bw : x0.heap.size = bw at *
        generalize x0.alloc (Obj.cells #[] 9) = x1 at *
        clear hb_bw
        refine wpT_fork ?_ ?_
        · refine wpT_step rfl ?_
          intro K1 hK1
          obtain ⟨sb, so, hsp⟩ := src_spot (HWS.out.below HB.out) hg1 (by decide)
          have HSC := hide (src_cells (by have := HWS.out.below HB.out; rw [hsp] at this; exact this))
          refine wp_append_lies _ (.tmp 17) (.tmp 22) 41 rfl wr.heap.size 9 si _ 1 16 Try.underlying41 sz0 sz ss sb2 rfl (by decide) _ 0 [] rfl HOW.out ⟨sb, so, none⟩ ws.length cw (ws.map Value.string) (by rw [← hsp]; rfl) (by simp) (fun j u hj => by rw [Addr.add_lit]; exact HSC.out j u hj) (fun u hu => by obtain ⟨q, _, rfl⟩ := List.mem_map.1 hu; rfl) (by omega) (by unfold maxLen; omega) (by omega) HB.out.size _ rfl ?_
          intro gw cgw x2 hown hgrow _ _
          simp only [Nat.zero_add, List.nil_append] at hown ⊢
          have HBq := hide (HB.out.grown hgrow HB.out.size (fun g e => (HOW.out.lt g e).1))
          have HOWq := hide hown; clear HOW; have HOW := HOWq; clear HOWq
          refine hK1.out _ _ (fun _ => pin_mem (HNS.out.below HBq.out)) ?_
          clear HB hK1 hown hgrow HSC; have HB := HBq; clear HBq hsp
          refine wpT_step rfl ?_
          intro K1 hK1
          go_wp2_with fail
          have HBq := hide (HB.out.alloc HB.out.size (Obj.cells #[] 24))
          have HOWq := hide (HOW.out.alloc (Obj.cells #[] 24)); clear HOW; have HOW := HOWq; clear HOWq
          have HOP := hide (World.ownsRow_made (e := 24) (size := 2) (base := wr.heap.size) x2 #[] 0 HB.out.size (Nat.zero_le _) rfl)
          refine hK1.out _ _ (fun _ => pin_mem (HNS.out.below HBq.out)) ?_
          clear HB hK1; have HB := HBq; clear HBq
          generalize hb_bp : x2.heap.size = bp at *
          generalize x2.alloc (Obj.cells #[] 24) = x3 at *
          clear hb_bp
          refine wpT_step rfl ?_
          intro K1 hK1
          obtain ⟨sb, so, hsp⟩ := src_spot (HPS.out.below HB.out) hg2 (by decide)
          have HSC := hide (src_cells (by have := HPS.out.below HB.out; rw [hsp] at this; exact this))
          refine wp_append_lies _ (.tmp 24) (.tmp 29) 42 rfl wr.heap.size 24 qi _ 2 16 Try.underlying42 qz0 qz qs qb rfl (by decide) _ 0 [] rfl HOP.out ⟨sb, so, none⟩ ps.length cp (posC ps) (by rw [← hsp]; rfl) (posC_len ps) (fun j u hj => by rw [Addr.add_lit]; exact HSC.out j u hj) (fun u hu => posC_one hu) (by omega) (by unfold maxLen; omega) (by omega) HB.out.size _ rfl ?_
          intro gp cgp x4 hown hgrow _ _
          simp only [Nat.zero_add, List.nil_append] at hown ⊢
          have HBq := hide (HB.out.grown hgrow HB.out.size (fun g e => (HOP.out.lt g e).1))
          have HOWq := hide (own_kept HOW.out hgrow (fun g e => own_types HOP.out HOW.out (by decide) g e)); clear HOW; have HOW := HOWq; clear HOWq
          have HOPq := hide hown; clear HOP; have HOP := HOPq; clear HOPq
          refine hK1.out _ _ (fun _ => pin_mem (HNS.out.below HBq.out)) ?_
          clear HB hK1 hown hgrow HSC; have HB := HBq; clear HBq hsp
          refine wpT_step rfl ?_
          intro K1 hK1
          go_wp2_with fail
          refine hK1.out _ _ (fun _ => pin_mem (HNS.out.below HB.out)) ?_
          clear hK1
          refine wpT_step rfl ?_
          intro K1 hK1
          go_wp2_with fail
          have HB5 := hide (HB.out.alloc HB.out.size (RowC d (.slice (some ⟨gw, 0, none⟩) ws.length cgw) (.slice (some ⟨gp, 0, none⟩) ps.length cgp) blk))
          refine hK1.out _ _ (fun _ => pin_mem (HNS.out.below HB5.out)) ?_
          clear hK1
          have HRN := hide (ro_one (w := wr) (d := d) blk HB.out.size HOW.out HOP.out)
          have HRO := hide (HX.out.ro.grow (grown_of_below HB5.out) (fun b e => by cases e))
          have HRW := hide (row_at (heap_new x4 (RowC d (.slice (some ⟨gw, 0, none⟩) ws.length cgw) (.slice (some ⟨gp, 0, none⟩) ps.length cgp) blk)))
          refine wpT_step rfl ?_
          intro K1 hK1
          refine wp_append_lies _ (.tmp 15) (.tmp 37) 49 rfl w.heap.size 62 ri _ 4 64 Try.underlying49 rz0 rz rss rb rfl (by decide) _ _ _ rfl HRO.out.own ⟨x4.heap.size, 0, none⟩ 1 1 [.int .i64 d, .slice (some ⟨gw, 0, none⟩) ws.length cgw, .slice (some ⟨gp, 0, none⟩) ps.length cgp, .bool blk] rfl rfl HRW.out ?ones (by omega) ?c63 ?cby ?cbase _ rfl ?_
          case ones => simp [Value.oneCell']
          case c63 => unfold maxLen; omega
          case cby => omega
          case cbase => exact Nat.le_trans HX.out.bl.size HB5.out.size
          intro gn cgn x6 hown hgrow hkk _
          have hap := Ro.app HRO.out HRN.out (fun g e => (HX.out.ro.own.lt g e).2) HX.out.bl.size hown hgrow (hkk.elim (fun h => .inl h.symm) (fun h => .inr (by rw [h]; rfl)))
          have HB6 := hide (below_lo HX.out.bl HB5.out HX.out.bl.size)
          have HB7 := hide (HB6.out.grown hgrow HB6.out.size (fun g e => (HRO.out.own.lt g e).1))
          have HAP := hide hap
          refine hK1.out _ _ (fun h => by cases h) ?_
          clear hK1 hown hgrow hkk hap
          refine wpT_step rfl ?_
          intro K1 hK1
          go_wp2_with fail
          refine hK1.out _ _ (fun h => by cases h) ?_
          clear hK1
          refine wpT_done ?_
          clear HB HOW HOP HB5 HRN HRO HRW HNS k0 k1 k2 k3 HB6
          have hcc := HCEL.out x6 HB7.out
          obtain ⟨-, -, -, m3⟩ := hcc
          have HREC := hide (HRCF.out x6 HB7.out)
          clear HRCF
          go_wp2_with fail
          refine HREC.out.mono ?_
          rintro e x7 ⟨hb7, vk, yk, BK, rfl, hk, hkn⟩
          have HRO7 := hide (HAP.out.grow (grown_of_below hb7) (fun b e => by cases e))
          have HB8 := hide (below_lo HB7.out hb7 HB7.out.size)
          have HK := hide hk
          have HXS := hide (show x6.heap.size ≤ x7.heap.size from hb7.size)
          clear hb7
          have hv6 : ∀ g, (Value.slice (some ⟨gn, 0, none⟩) ((rowsF d Fd).length + 1) cgn).ownBlock = some g → g < x6.heap.size := fun g e => (HAP.out.own.lt g e).2
          have hrw : rowsF d (Fd.app (.cons ws ps blk K .nil)) = rowsF d Fd ++ [⟨d, ws, ps, blk⟩] ++ rowsF (d + 1) K := by rw [rowsF_app, rowsF]; simp [rowsF]
          have HRW := hide hrw
          have HV6 := hide hv6
          clear hv6 hrw
          by_cases hKn : K = .nil
          · have hvk := hkn hKn
            subst hvk
            have HKN := hide hKn
            clear hk hkn HREC hKn
            go_wp2_with (at_builtin; go_must (refine wpList_append_own_none rfl (.tmp 39) (.tmp 47) 49 rfl w.heap.size 62 ri 4 Try.underlying49 rz0 _ _ _ rfl HRO7.out.own rfl ?_))
            have HF := hide (show RwL w x7 (.slice (some ⟨gn, 0, none⟩) ((rowsF d Fd).length + 1) cgn) d F (i + 1) (Fd.app (.cons ws ps blk K .nil)) R _ xs _ D from ⟨HB8.out, by rw [HRW.out, HKN.out]; simpa [rowsF] using HRO7.out, HRF.out, by have := HLEN.out; omega, by rw [Fo.len_app, HDL.out]; rfl, HNO.out.2, by rw [sz_app]; have h1 := HSR.out; show szF Fd + (ws.length + ps.length + 1 + szF K + 0) + szF R ≤ _; omega, HGR.out, HDP.out, by rw [app_cons]; exact HX.out.eq, fun h => by cases Fd <;> cases h⟩)
            go_wp2_with fail
            go_roundw
            case rel => exact ⟨i + 1, _, R, _, _, by go_num, HF.out⟩
            case measure => have := HLEN.out; simp [intOf]; omega
          · have hkl1 : 1 ≤ (rowsF (d + 1) K).length := by
              cases K with
              | nil => exact absurd rfl hKn
              | cons a b e f g => simp [rowsF]
            obtain ⟨gk, ckk, hvk, hgk1, hgk2⟩ := own_some hk.own hkl1
            subst hvk
            have HSK := hide (own_cells hk.own)
            clear hk hkn HREC hKn hgk1 hgk2
            go_wp2_with (at_builtin; go_must (refine wpList_append_own_at _ rfl (.tmp 39) (.tmp 47) 49 rfl w.heap.size 62 ri _ 4 64 Try.underlying49 rz0 rz rss rb rfl (by decide) _ _ _ rfl HRO7.out.own ⟨gk, 0, none⟩ (rowsF (d + 1) K).length ckk yk rfl HK.out.own.1 HSK.out HK.out.rw'.one ?c63 ?cby ?cbase ?_))
            case c63 => rw [List.length_append]; unfold maxLen; simp; omega
            case cby => rw [List.length_append]; simp; omega
            case cbase => exact HB8.out.size
            intro v8 w8 hown hgr _ hk8
            have hap := Ro.app HRO7.out HK.out HV6.out HB7.out.size (by rw [List.length_append, List.append_assoc]; exact hown) hgr hk8
            have HF := hide (show RwL w w8 v8 d F (i + 1) (Fd.app (.cons ws ps blk K .nil)) R _ xs _ D from ⟨HB8.out.grown hgr HB8.out.size (fun g e => (HRO7.out.own.lt g e).1), by rw [HRW.out]; exact hap, HRF.out, by have := HLEN.out; omega, by rw [Fo.len_app, HDL.out]; rfl, HNO.out.2, by rw [sz_app]; have h1 := HSR.out; show szF Fd + (ws.length + ps.length + 1 + szF K + 0) + szF R ≤ _; omega, HGR.out, HDP.out, by rw [app_cons]; exact HX.out.eq, fun h => by cases Fd <;> cases h⟩)
            clear hown hgr hk8 hap
            go_wp2_with fail
            go_roundw
            case rel => exact ⟨i + 1, _, R, _, _, by go_num, HF.out⟩
            case measure => have := HLEN.out; simp [intOf]; omega
        · refine wpT_step rfl ?_
          intro K1 hK1
          go_wp2_with fail
          have HBq := hide (HB.out.alloc HB.out.size (Obj.cells #[] 24))
          have HOWq := hide (HOW.out.alloc (Obj.cells #[] 24)); clear HOW; have HOW := HOWq; clear HOWq
          have HOP := hide (World.ownsRow_made (e := 24) (size := 2) (base := wr.heap.size) x1 #[] 0 HB.out.size (Nat.zero_le _) rfl)
          refine hK1.out _ _ (fun _ => pin_mem (HNS.out.below HBq.out)) ?_
          clear HB hK1; have HB := HBq; clear HBq
          generalize hb_bp : x1.heap.size = bp at *
          generalize x1.alloc (Obj.cells #[] 24) = x2 at *
          clear hb_bp
          refine wpT_step rfl ?_
          intro K1 hK1
          obtain ⟨sb, so, hsp⟩ := src_spot (HWS.out.below HB.out) hg1 (by decide)
          have HSC := hide (src_cells (by have := HWS.out.below HB.out; rw [hsp] at this; exact this))
          refine wp_append_lies _ (.tmp 17) (.tmp 22) 41 rfl wr.heap.size 9 si _ 1 16 Try.underlying41 sz0 sz ss sb2 rfl (by decide) _ 0 [] rfl HOW.out ⟨sb, so, none⟩ ws.length cw (ws.map Value.string) (by rw [← hsp]; rfl) (by simp) (fun j u hj => by rw [Addr.add_lit]; exact HSC.out j u hj) (fun u hu => by obtain ⟨q, _, rfl⟩ := List.mem_map.1 hu; rfl) (by omega) (by unfold maxLen; omega) (by omega) HB.out.size _ rfl ?_
          intro gw cgw x3 hown hgrow _ _
          simp only [Nat.zero_add, List.nil_append] at hown ⊢
          have HBq := hide (HB.out.grown hgrow HB.out.size (fun g e => (HOW.out.lt g e).1))
          have HOPq := hide (own_kept HOP.out hgrow (fun g e => own_types HOW.out HOP.out (by decide) g e)); clear HOP; have HOP := HOPq; clear HOPq
          have HOWq := hide hown; clear HOW; have HOW := HOWq; clear HOWq
          refine hK1.out _ _ (fun _ => pin_mem (HNS.out.below HBq.out)) ?_
          clear HB hK1 hown hgrow HSC; have HB := HBq; clear HBq hsp
          refine wpT_step rfl ?_
          intro K1 hK1
          obtain ⟨sb, so, hsp⟩ := src_spot (HPS.out.below HB.out) hg2 (by decide)
          have HSC := hide (src_cells (by have := HPS.out.below HB.out; rw [hsp] at this; exact this))
          refine wp_append_lies _ (.tmp 24) (.tmp 29) 42 rfl wr.heap.size 24 qi _ 2 16 Try.underlying42 qz0 qz qs qb rfl (by decide) _ 0 [] rfl HOP.out ⟨sb, so, none⟩ ps.length cp (posC ps) (by rw [← hsp]; rfl) (posC_len ps) (fun j u hj => by rw [Addr.add_lit]; exact HSC.out j u hj) (fun u hu => posC_one hu) (by omega) (by unfold maxLen; omega) (by omega) HB.out.size _ rfl ?_
          intro gp cgp x4 hown hgrow _ _
          simp only [Nat.zero_add, List.nil_append] at hown ⊢
          have HBq := hide (HB.out.grown hgrow HB.out.size (fun g e => (HOP.out.lt g e).1))
          have HOWq := hide (own_kept HOW.out hgrow (fun g e => own_types HOP.out HOW.out (by decide) g e)); clear HOW; have HOW := HOWq; clear HOWq
          have HOPq := hide hown; clear HOP; have HOP := HOPq; clear HOPq
          refine hK1.out _ _ (fun _ => pin_mem (HNS.out.below HBq.out)) ?_
          clear HB hK1 hown hgrow HSC; have HB := HBq; clear HBq hsp
          refine wpT_step rfl ?_
          intro K1 hK1
          go_wp2_with fail
          refine hK1.out _ _ (fun _ => pin_mem (HNS.out.below HB.out)) ?_
          clear hK1
          refine wpT_step rfl ?_
          intro K1 hK1
          go_wp2_with fail
          have HB5 := hide (HB.out.alloc HB.out.size (RowC d (.slice (some ⟨gw, 0, none⟩) ws.length cgw) (.slice (some ⟨gp, 0, none⟩) ps.length cgp) blk))
          refine hK1.out _ _ (fun _ => pin_mem (HNS.out.below HB5.out)) ?_
          clear hK1
          have HRN := hide (ro_one (w := wr) (d := d) blk HB.out.size HOW.out HOP.out)
          have HRO := hide (HX.out.ro.grow (grown_of_below HB5.out) (fun b e => by cases e))
          have HRW := hide (row_at (heap_new x4 (RowC d (.slice (some ⟨gw, 0, none⟩) ws.length cgw) (.slice (some ⟨gp, 0, none⟩) ps.length cgp) blk)))
          refine wpT_step rfl ?_
          intro K1 hK1
          refine wp_append_lies _ (.tmp 15) (.tmp 37) 49 rfl w.heap.size 62 ri _ 4 64 Try.underlying49 rz0 rz rss rb rfl (by decide) _ _ _ rfl HRO.out.own ⟨x4.heap.size, 0, none⟩ 1 1 [.int .i64 d, .slice (some ⟨gw, 0, none⟩) ws.length cgw, .slice (some ⟨gp, 0, none⟩) ps.length cgp, .bool blk] rfl rfl HRW.out ?ones (by omega) ?c63 ?cby ?cbase _ rfl ?_
          case ones => simp [Value.oneCell']
          case c63 => unfold maxLen; omega
          case cby => omega
          case cbase => exact Nat.le_trans HX.out.bl.size HB5.out.size
          intro gn cgn x6 hown hgrow hkk _
          have hap := Ro.app HRO.out HRN.out (fun g e => (HX.out.ro.own.lt g e).2) HX.out.bl.size hown hgrow (hkk.elim (fun h => .inl h.symm) (fun h => .inr (by rw [h]; rfl)))
          have HB6 := hide (below_lo HX.out.bl HB5.out HX.out.bl.size)
          have HB7 := hide (HB6.out.grown hgrow HB6.out.size (fun g e => (HRO.out.own.lt g e).1))
          have HAP := hide hap
          refine hK1.out _ _ (fun h => by cases h) ?_
          clear hK1 hown hgrow hkk hap
          refine wpT_step rfl ?_
          intro K1 hK1
          go_wp2_with fail
          refine hK1.out _ _ (fun h => by cases h) ?_
          clear hK1
          refine wpT_done ?_
          clear HB HOW HOP HB5 HRN HRO HRW HNS k0 k1 k2 k3 HB6
          have hcc := HCEL.out x6 HB7.out
          obtain ⟨-, -, -, m3⟩ := hcc
          have HREC := hide (HRCF.out x6 HB7.out)
          clear HRCF
          go_wp2_with fail
          refine HREC.out.mono ?_
          rintro e x7 ⟨hb7, vk, yk, BK, rfl, hk, hkn⟩
          have HRO7 := hide (HAP.out.grow (grown_of_below hb7) (fun b e => by cases e))
          have HB8 := hide (below_lo HB7.out hb7 HB7.out.size)
          have HK := hide hk
          have HXS := hide (show x6.heap.size ≤ x7.heap.size from hb7.size)
          clear hb7
          have hv6 : ∀ g, (Value.slice (some ⟨gn, 0, none⟩) ((rowsF d Fd).length + 1) cgn).ownBlock = some g → g < x6.heap.size := fun g e => (HAP.out.own.lt g e).2
          have hrw : rowsF d (Fd.app (.cons ws ps blk K .nil)) = rowsF d Fd ++ [⟨d, ws, ps, blk⟩] ++ rowsF (d + 1) K := by rw [rowsF_app, rowsF]; simp [rowsF]
          have HRW := hide hrw
          have HV6 := hide hv6
          clear hv6 hrw
          by_cases hKn : K = .nil
          · have hvk := hkn hKn
            subst hvk
            have HKN := hide hKn
            clear hk hkn HREC hKn
            go_wp2_with (at_builtin; go_must (refine wpList_append_own_none rfl (.tmp 39) (.tmp 47) 49 rfl w.heap.size 62 ri 4 Try.underlying49 rz0 _ _ _ rfl HRO7.out.own rfl ?_))
            have HF := hide (show RwL w x7 (.slice (some ⟨gn, 0, none⟩) ((rowsF d Fd).length + 1) cgn) d F (i + 1) (Fd.app (.cons ws ps blk K .nil)) R _ xs _ D from ⟨HB8.out, by rw [HRW.out, HKN.out]; simpa [rowsF] using HRO7.out, HRF.out, by have := HLEN.out; omega, by rw [Fo.len_app, HDL.out]; rfl, HNO.out.2, by rw [sz_app]; have h1 := HSR.out; show szF Fd + (ws.length + ps.length + 1 + szF K + 0) + szF R ≤ _; omega, HGR.out, HDP.out, by rw [app_cons]; exact HX.out.eq, fun h => by cases Fd <;> cases h⟩)
            go_wp2_with fail
            go_roundw
            case rel => exact ⟨i + 1, _, R, _, _, by go_num, HF.out⟩
            case measure => have := HLEN.out; simp [intOf]; omega
          · have hkl1 : 1 ≤ (rowsF (d + 1) K).length := by
              cases K with
              | nil => exact absurd rfl hKn
              | cons a b e f g => simp [rowsF]
            obtain ⟨gk, ckk, hvk, hgk1, hgk2⟩ := own_some hk.own hkl1
            subst hvk
            have HSK := hide (own_cells hk.own)
            clear hk hkn HREC hKn hgk1 hgk2
            go_wp2_with (at_builtin; go_must (refine wpList_append_own_at _ rfl (.tmp 39) (.tmp 47) 49 rfl w.heap.size 62 ri _ 4 64 Try.underlying49 rz0 rz rss rb rfl (by decide) _ _ _ rfl HRO7.out.own ⟨gk, 0, none⟩ (rowsF (d + 1) K).length ckk yk rfl HK.out.own.1 HSK.out HK.out.rw'.one ?c63 ?cby ?cbase ?_))
            case c63 => rw [List.length_append]; unfold maxLen; simp; omega
            case cby => rw [List.length_append]; simp; omega
            case cbase => exact HB8.out.size
            intro v8 w8 hown hgr _ hk8
            have hap := Ro.app HRO7.out HK.out HV6.out HB7.out.size (by rw [List.length_append, List.append_assoc]; exact hown) hgr hk8
            have HF := hide (show RwL w w8 v8 d F (i + 1) (Fd.app (.cons ws ps blk K .nil)) R _ xs _ D from ⟨HB8.out.grown hgr HB8.out.size (fun g e => (HRO7.out.own.lt g e).1), by rw [HRW.out]; exact hap, HRF.out, by have := HLEN.out; omega, by rw [Fo.len_app, HDL.out]; rfl, HNO.out.2, by rw [sz_app]; have h1 := HSR.out; show szF Fd + (ws.length + ps.length + 1 + szF K + 0) + szF R ≤ _; omega, HGR.out, HDP.out, by rw [app_cons]; exact HX.out.eq, fun h => by cases Fd <;> cases h⟩)
            clear hown hgr hk8 hap
            go_wp2_with fail
            go_roundw
            case rel => exact ⟨i + 1, _, R, _, _, by go_num, HF.out⟩
            case measure => have := HLEN.out; simp [intOf]; omega
      · refine wpT_step rfl ?_
        intro K1 hK1
        go_wp2_with fail
        have HBq := hide (HB.out.alloc HB.out.size (Obj.cells #[] 24))
        have HOP := hide (World.ownsRow_made (e := 24) (size := 2) (base := wr.heap.size) x0 #[] 0 HB.out.size (Nat.zero_le _) rfl)
        refine hK1.out _ _ (fun _ => pin_mem (HNS.out.below HBq.out)) ?_
        clear HB hK1; have HB := HBq; clear HBq
        generalize hb_bp : x0.heap.size = bp at *
        generalize x0.alloc (Obj.cells #[] 24) = x1 at *
        clear hb_bp
        refine wpT_step rfl ?_
        intro K1 hK1
        go_wp2_with fail
        have HBq := hide (HB.out.alloc HB.out.size (Obj.cells #[] 9))
        have HOPq := hide (HOP.out.alloc (Obj.cells #[] 9)); clear HOP; have HOP := HOPq; clear HOPq
        have HOW := hide (World.ownsRow_made (e := 9) (size := 1) (base := wr.heap.size) x1 #[] 0 HB.out.size (Nat.zero_le _) rfl)
        refine hK1.out _ _ (fun _ => pin_mem (HNS.out.below HBq.out)) ?_
        clear HB hK1; have HB := HBq; clear HBq
        generalize hb_bw : x1.heap.size = bw at *
        generalize x1.alloc (Obj.cells #[] 9) = x2 at *
        clear hb_bw
        refine wpT_step rfl ?_
        intro K1 hK1
        obtain ⟨sb, so, hsp⟩ := src_spot (HWS.out.below HB.out) hg1 (by decide)
        have HSC := hide (src_cells (by have := HWS.out.below HB.out; rw [hsp] at this; exact this))
        refine wp_append_lies _ (.tmp 17) (.tmp 22) 41 rfl wr.heap.size 9 si _ 1 16 Try.underlying41 sz0 sz ss sb2 rfl (by decide) _ 0 [] rfl HOW.out ⟨sb, so, none⟩ ws.length cw (ws.map Value.string) (by rw [← hsp]; rfl) (by simp) (fun j u hj => by rw [Addr.add_lit]; exact HSC.out j u hj) (fun u hu => by obtain ⟨q, _, rfl⟩ := List.mem_map.1 hu; rfl) (by omega) (by unfold maxLen; omega) (by omega) HB.out.size _ rfl ?_
        intro gw cgw x3 hown hgrow _ _
        simp only [Nat.zero_add, List.nil_append] at hown ⊢
        have HBq := hide (HB.out.grown hgrow HB.out.size (fun g e => (HOW.out.lt g e).1))
        have HOPq := hide (own_kept HOP.out hgrow (fun g e => own_types HOW.out HOP.out (by decide) g e)); clear HOP; have HOP := HOPq; clear HOPq
        have HOWq := hide hown; clear HOW; have HOW := HOWq; clear HOWq
        refine hK1.out _ _ (fun _ => pin_mem (HNS.out.below HBq.out)) ?_
        clear HB hK1 hown hgrow HSC; have HB := HBq; clear HBq hsp
        refine wpT_step rfl ?_
        intro K1 hK1
        obtain ⟨sb, so, hsp⟩ := src_spot (HPS.out.below HB.out) hg2 (by decide)
        have HSC := hide (src_cells (by have := HPS.out.below HB.out; rw [hsp] at this; exact this))
        refine wp_append_lies _ (.tmp 24) (.tmp 29) 42 rfl wr.heap.size 24 qi _ 2 16 Try.underlying42 qz0 qz qs qb rfl (by decide) _ 0 [] rfl HOP.out ⟨sb, so, none⟩ ps.length cp (posC ps) (by rw [← hsp]; rfl) (posC_len ps) (fun j u hj => by rw [Addr.add_lit]; exact HSC.out j u hj) (fun u hu => posC_one hu) (by omega) (by unfold maxLen; omega) (by omega) HB.out.size _ rfl ?_
        intro gp cgp x4 hown hgrow _ _
        simp only [Nat.zero_add, List.nil_append] at hown ⊢
        have HBq := hide (HB.out.grown hgrow HB.out.size (fun g e => (HOP.out.lt g e).1))
        have HOWq := hide (own_kept HOW.out hgrow (fun g e => own_types HOP.out HOW.out (by decide) g e)); clear HOW; have HOW := HOWq; clear HOWq
        have HOPq := hide hown; clear HOP; have HOP := HOPq; clear HOPq
        refine hK1.out _ _ (fun _ => pin_mem (HNS.out.below HBq.out)) ?_
        clear HB hK1 hown hgrow HSC; have HB := HBq; clear HBq hsp
        refine wpT_step rfl ?_
        intro K1 hK1
        go_wp2_with fail
        refine hK1.out _ _ (fun _ => pin_mem (HNS.out.below HB.out)) ?_
        clear hK1
        refine wpT_step rfl ?_
        intro K1 hK1
        go_wp2_with fail
        have HB5 := hide (HB.out.alloc HB.out.size (RowC d (.slice (some ⟨gw, 0, none⟩) ws.length cgw) (.slice (some ⟨gp, 0, none⟩) ps.length cgp) blk))
        refine hK1.out _ _ (fun _ => pin_mem (HNS.out.below HB5.out)) ?_
        clear hK1
        have HRN := hide (ro_one (w := wr) (d := d) blk HB.out.size HOW.out HOP.out)
        have HRO := hide (HX.out.ro.grow (grown_of_below HB5.out) (fun b e => by cases e))
        have HRW := hide (row_at (heap_new x4 (RowC d (.slice (some ⟨gw, 0, none⟩) ws.length cgw) (.slice (some ⟨gp, 0, none⟩) ps.length cgp) blk)))
        refine wpT_step rfl ?_
        intro K1 hK1
        refine wp_append_lies _ (.tmp 15) (.tmp 37) 49 rfl w.heap.size 62 ri _ 4 64 Try.underlying49 rz0 rz rss rb rfl (by decide) _ _ _ rfl HRO.out.own ⟨x4.heap.size, 0, none⟩ 1 1 [.int .i64 d, .slice (some ⟨gw, 0, none⟩) ws.length cgw, .slice (some ⟨gp, 0, none⟩) ps.length cgp, .bool blk] rfl rfl HRW.out ?ones (by omega) ?c63 ?cby ?cbase _ rfl ?_
        case ones => simp [Value.oneCell']
        case c63 => unfold maxLen; omega
        case cby => omega
        case cbase => exact Nat.le_trans HX.out.bl.size HB5.out.size
        intro gn cgn x6 hown hgrow hkk _
        have hap := Ro.app HRO.out HRN.out (fun g e => (HX.out.ro.own.lt g e).2) HX.out.bl.size hown hgrow (hkk.elim (fun h => .inl h.symm) (fun h => .inr (by rw [h]; rfl)))
        have HB6 := hide (below_lo HX.out.bl HB5.out HX.out.bl.size)
        have HB7 := hide (HB6.out.grown hgrow HB6.out.size (fun g e => (HRO.out.own.lt g e).1))
        have HAP := hide hap
        refine hK1.out _ _ (fun h => by cases h) ?_
        clear hK1 hown hgrow hkk hap
        refine wpT_step rfl ?_
        intro K1 hK1
        go_wp2_with fail
        refine hK1.out _ _ (fun h => by cases h) ?_
        clear hK1
        refine wpT_done ?_
        clear HB HOW HOP HB5 HRN HRO HRW HNS k0 k1 k2 k3 HB6
        have hcc := HCEL.out x6 HB7.out
        obtain ⟨-, -, -, m3⟩ := hcc
        have HREC := hide (HRCF.out x6 HB7.out)
        clear HRCF
        go_wp2_with fail
        refine HREC.out.mono ?_
        rintro e x7 ⟨hb7, vk, yk, BK, rfl, hk, hkn⟩
        have HRO7 := hide (HAP.out.grow (grown_of_below hb7) (fun b e => by cases e))
        have HB8 := hide (below_lo HB7.out hb7 HB7.out.size)
        have HK := hide hk
        have HXS := hide (show x6.heap.size ≤ x7.heap.size from hb7.size)
        clear hb7
        have hv6 : ∀ g, (Value.slice (some ⟨gn, 0, none⟩) ((rowsF d Fd).length + 1) cgn).ownBlock = some g → g < x6.heap.size := fun g e => (HAP.out.own.lt g e).2
        have hrw : rowsF d (Fd.app (.cons ws ps blk K .nil)) = rowsF d Fd ++ [⟨d, ws, ps, blk⟩] ++ rowsF (d + 1) K := by rw [rowsF_app, rowsF]; simp [rowsF]
        have HRW := hide hrw
        have HV6 := hide hv6
        clear hv6 hrw
        by_cases hKn : K = .nil
        · have hvk := hkn hKn
          subst hvk
          have HKN := hide hKn
          clear hk hkn HREC hKn
          go_wp2_with (at_builtin; go_must (refine wpList_append_own_none rfl (.tmp 39) (.tmp 47) 49 rfl w.heap.size 62 ri 4 Try.underlying49 rz0 _ _ _ rfl HRO7.out.own rfl ?_))
          have HF := hide (show RwL w x7 (.slice (some ⟨gn, 0, none⟩) ((rowsF d Fd).length + 1) cgn) d F (i + 1) (Fd.app (.cons ws ps blk K .nil)) R _ xs _ D from ⟨HB8.out, by rw [HRW.out, HKN.out]; simpa [rowsF] using HRO7.out, HRF.out, by have := HLEN.out; omega, by rw [Fo.len_app, HDL.out]; rfl, HNO.out.2, by rw [sz_app]; have h1 := HSR.out; show szF Fd + (ws.length + ps.length + 1 + szF K + 0) + szF R ≤ _; omega, HGR.out, HDP.out, by rw [app_cons]; exact HX.out.eq, fun h => by cases Fd <;> cases h⟩)
          go_wp2_with fail
          go_roundw
          case rel => exact ⟨i + 1, _, R, _, _, by go_num, HF.out⟩
          case measure => have := HLEN.out; simp [intOf]; omega
        · have hkl1 : 1 ≤ (rowsF (d + 1) K).length := by
            cases K with
            | nil => exact absurd rfl hKn
            | cons a b e f g => simp [rowsF]
          obtain ⟨gk, ckk, hvk, hgk1, hgk2⟩ := own_some hk.own hkl1
          subst hvk
          have HSK := hide (own_cells hk.own)
          clear hk hkn HREC hKn hgk1 hgk2
          go_wp2_with (at_builtin; go_must (refine wpList_append_own_at _ rfl (.tmp 39) (.tmp 47) 49 rfl w.heap.size 62 ri _ 4 64 Try.underlying49 rz0 rz rss rb rfl (by decide) _ _ _ rfl HRO7.out.own ⟨gk, 0, none⟩ (rowsF (d + 1) K).length ckk yk rfl HK.out.own.1 HSK.out HK.out.rw'.one ?c63 ?cby ?cbase ?_))
          case c63 => rw [List.length_append]; unfold maxLen; simp; omega
          case cby => rw [List.length_append]; simp; omega
          case cbase => exact HB8.out.size
          intro v8 w8 hown hgr _ hk8
          have hap := Ro.app HRO7.out HK.out HV6.out HB7.out.size (by rw [List.length_append, List.append_assoc]; exact hown) hgr hk8
          have HF := hide (show RwL w w8 v8 d F (i + 1) (Fd.app (.cons ws ps blk K .nil)) R _ xs _ D from ⟨HB8.out.grown hgr HB8.out.size (fun g e => (HRO7.out.own.lt g e).1), by rw [HRW.out]; exact hap, HRF.out, by have := HLEN.out; omega, by rw [Fo.len_app, HDL.out]; rfl, HNO.out.2, by rw [sz_app]; have h1 := HSR.out; show szF Fd + (ws.length + ps.length + 1 + szF K + 0) + szF R ≤ _; omega, HGR.out, HDP.out, by rw [app_cons]; exact HX.out.eq, fun h => by cases Fd <;> cases h⟩)
          clear hown hgr hk8 hap
          go_wp2_with fail
          go_roundw
          case rel => exact ⟨i + 1, _, R, _, _, by go_num, HF.out⟩
          case measure => have := HLEN.out; simp [intOf]; omega
end Go.Proofs.Ytihmmmodimionaa.Tr
/- The document's reading: its state, fail, kind. -/
namespace Go.Proofs.Ytihmmmodimionaa.Tr
open Go.RowKit Go.Proofs.Ytihmmmodimionaa Go.Proofs.Ytihmmmodimionaa.Lx

abbrev StC (A : Option Addr) (n cap : Nat) (i : Nat) (vr vb : Value) (e l c : Int) : Obj := .cells #[.slice A n cap, .int .i64 i, vr, vb, .int .i64 e, .int .i64 l, .int .i64 c] 92
/-- the state of a reading -/
structure StX (w : World) (p : Nat) (A : Option Addr) (cap : Nat) (ts : List BTok) (i : Nat) (vr vb : Value) (e l c : Int) : Prop where
  h : w.heap[p]? = some (StC A ts.length cap i vr vb e l c)
  t : Src w A ts.length cap 4 (ts.flatMap BTok.cells)
  lt : ∀ a, A = some a → a.block < p
  il : i ≤ ts.length
  nl : ts.length ≤ 65536
theorem StX.below {w w' : World} {p : Nat} {A : Option Addr} {cap : Nat} {ts : List BTok} {i : Nat} {vr vb : Value} {e l c : Int} (h : StX w p A cap ts i vr vb e l c) (hb : Below w.heap.size w w') : StX w' p A cap ts i vr vb e l c :=
  ⟨heapB hb h.h, h.t.below hb, h.lt, h.il, h.nl⟩
/-- the token at hand -/
theorem StX.tok {w : World} {p : Nat} {A : Option Addr} {cap : Nat} {ts : List BTok} {i : Nat} {vr vb : Value} {e l c : Int} (h : StX w p A cap ts i vr vb e l c) (hi : i < ts.length) :
    ∃ b o, A = some ⟨b, o, none⟩ ∧ w.cell? ⟨b, o + i * 4, none⟩ = some (.int .u8 ts[i].k) ∧ w.cell? ⟨b, o + i * 4 + 1, none⟩ = some (.string ts[i].b) ∧ w.cell? ⟨b, o + i * 4 + 2, none⟩ = some (.int .i64 ts[i].l) ∧ w.cell? ⟨b, o + i * 4 + 3, none⟩ = some (.int .i64 ts[i].c) := by
  obtain ⟨b, o, rfl⟩ := src_spot h.t (by omega) (by decide)
  have hs := src_cells h.t
  have hc : ∀ (j : Nat) (u : Value), (BTok.cells ts[i])[j]? = some u → (ts.flatMap BTok.cells)[i * 4 + j]? = some u := by
    intro j u hj
    have h1 : ts = ts.take i ++ ts[i] :: ts.drop (i + 1) := by
      rw [List.getElem_cons_drop hi]
      simp
    have hl : ((ts.take i).flatMap BTok.cells).length = i * 4 := by
      rw [flat_len, List.length_take]
      omega
    have hj4 : j < (BTok.cells ts[i]).length := (List.getElem?_eq_some_iff.1 hj).1
    rw [h1, List.flatMap_append, List.getElem?_append_right (by omega), hl, Nat.add_sub_cancel_left, List.flatMap_cons]
    rw [List.getElem?_append_left hj4]
    exact hj
  refine ⟨b, o, rfl, ?_, ?_, ?_, ?_⟩
  · exact hs _ _ (hc 0 _ rfl)
  · have := hs _ _ (hc 1 _ rfl)
    rwa [← Nat.add_assoc] at this
  · have := hs _ _ (hc 2 _ rfl)
    rwa [← Nat.add_assoc] at this
  · have := hs _ _ (hc 3 _ rfl)
    rwa [← Nat.add_assoc] at this
set_option maxRecDepth 100000 in
theorem rfail_any (p : Nat) (A : Option Addr) (cap : Nat) (ts : List BTok) (i : Nat) (vr vb : Value) (e l c : Int) (w : World) (h : StX w p A cap ts i vr vb 0 0 0) :
    Calls Try.prog 45 #[.pointer (some ⟨p, 0, none⟩), .int .i64 e, .agg #[.int .i64 l, .int .i64 c]] w fun e' w' => e' = .returned (.tuple #[]) ∧ Only p w w' ∧ StX w' p A cap ts i vr vb e l c := by
  have hp := lt_heap h.h
  have p4 := cell_heap (j := 4) h.h rfl
  have p5 := cell_heap (j := 5) h.h rfl
  have p6 := cell_heap (j := 6) h.h rfl
  have f4 := frozen_heap (j := 4) h.h
  have f5 := frozen_heap (j := 5) h.h
  have f6 := frozen_heap (j := 6) h.h
  have HH := hide h
  clear h
  go_enter Try.func45, Try.ntmps45
  go_wp2_with fail
  go_end0
  refine ⟨rfl, only_alloc (only_set (only_set (only_set (only_refl p w) 4 _) 5 _) 6 _) _, ?_, ?_, HH.out.lt, HH.out.il, HH.out.nl⟩
  · have h3 := heap_set (j := 6) (u := .int .i64 c) (heap_set (j := 5) (u := .int .i64 l) (heap_set (j := 4) (u := .int .i64 e) HH.out.h))
    exact heap_old (w := ((w.setCell ⟨p, 4, none⟩ (.int .i64 e)).setCell ⟨p, 5, none⟩ (.int .i64 l)).setCell ⟨p, 6, none⟩ (.int .i64 c)) h3
  · refine src_keep HH.out.t (fun a ha => ?_)
    have h1 := HH.out.lt a ha
    exact (only_alloc (only_set (only_set (only_set (only_refl p w) 4 _) 5 _) 6 _) _).block a.block (by omega) (fun e => by injection e with e; omega)
set_option maxRecDepth 100000 in
theorem rkind_any (p : Nat) (A : Option Addr) (cap : Nat) (ts : List BTok) (i : Nat) (vr vb : Value) (e l c : Int) (w : World) (h : StX w p A cap ts i vr vb e l c) :
    Calls Try.prog 43 #[.pointer (some ⟨p, 0, none⟩)] w fun e' w' => e' = .returned (.int .u8 (kindT (ts.drop i))) ∧ Below w.heap.size w w' := by
  have p0 := lat_cell (cell_heap (j := 0) h.h rfl)
  have p1 := lat_cell (cell_heap (j := 1) h.h rfl)
  have q0 := cell_heap (j := 0) h.h rfl
  have q1 := cell_heap (j := 1) h.h rfl
  have hil := h.il
  rcases Nat.lt_or_ge i ts.length with hlt | hge
  · obtain ⟨b, o, rfl, t0, -, -, -⟩ := h.tok hlt
    have s0 := lat_cell t0
    have d1 : decide (ts.length ≤ i) = false := decide_eq_false (by omega)
    have d1' : decide ((ts.length : Int) ≤ (i : Int)) = false := decide_eq_false (by omega)
    have d2 : ((i : Int) < (ts.length : Int)) := by omega
    have hk : kindT (ts.drop i) = ts[i].k := by rw [List.drop_eq_getElem_cons hlt]; rfl
    rw [hk]
    generalize ts[i].k = k at *
    clear h hk
    go_enter Try.func43, Try.ntmps43
    go_wp2_with fail
    refine wp_region_lat (by kernel_rfl) (by kernel_rfl) ?_
    repeat (first | go_big_quiet_step ((fail)) | quiet_step ((fail)))
    refine wpQuiet_nil ?_
    intro _ hlat
    obtain ⟨wq, rfl⟩ := hlat
    go_wp2_with fail
    have r0 := lat_cell (p0 wq)
    have r1 := lat_cell (p1 wq)
    have s1 := lat_cell (s0 wq)
    have HQ := hide (lat_below w wq)
    generalize lat w wq = w1 at *
    refine wp_region_lat (by kernel_rfl) (by kernel_rfl) ?_
    repeat (first | go_big_quiet_step ((fail)) | quiet_step ((fail)))
    refine wpQuiet_nil ?_
    intro _ hlat
    obtain ⟨wq, rfl⟩ := hlat
    go_wp2_with fail
    go_ret
    exact ⟨rfl, below_wide HQ.out (lat_below _ _)⟩
  · have d1 : decide (ts.length ≤ i) = true := decide_eq_true (by omega)
    have d1' : decide ((ts.length : Int) ≤ (i : Int)) = true := decide_eq_true (by omega)
    have hk : kindT (ts.drop i) = 0 := by rw [List.drop_eq_nil_of_le (by omega)]; rfl
    rw [hk]
    clear h hk
    go_enter Try.func43, Try.ntmps43
    go_wp2_with fail
    refine wp_region_lat (by kernel_rfl) (by kernel_rfl) ?_
    repeat (first | go_big_quiet_step ((fail)) | quiet_step ((fail)))
    refine wpQuiet_nil ?_
    intro _ hlat
    obtain ⟨wq, rfl⟩ := hlat
    go_wp2_with fail
    go_ret
    exact ⟨rfl, lat_below _ _⟩
end Go.Proofs.Ytihmmmodimionaa.Tr
/- The document's reading: an append from a slice that may be nil, at an operation, and where the new slice lies; what a taken word leaves. -/
namespace Go.Proofs.Ytihmmmodimionaa.Tr
open Go.RowKit Go.Proofs.Ytihmmmodimionaa Go.Proofs.Ytihmmmodimionaa.Lx

theorem wp_src {P : Program} {w : World} {o : Oper} {a : Act} {K : Act → World → Prop} {Q : Exit → Act → World → Prop} (s x : Operand) (t : TypeId)
    (ho : o.op = .call { callee := .builtin .append, args := #[s, x], argTypes := #[t, t] })
    (base : Nat) (e : TypeId) (i : TypeInfo) (z : Value) (size bytes : Nat) (ht : P.underlying t = some (.slice e)) (hi : P.info? e = some i) (hz : i.zero = some z)
    (hsize : i.size = size) (hby : i.bytes = bytes) (hzs : z.cells.size = size) (hsz : 0 < size)
    (v : Value) (n : Nat) (xs : List Value) (hs : a.eval s = v) (hown : w.ownsRow base e size v n xs)
    (A : Option Addr) (m c : Nat) (news : List Value) (hx : a.eval x = .slice A m c) (hsrc : Src w A m c size news) (h1 : ∀ u ∈ news, u.oneCell' = true)
    (h63 : n + m ≤ maxLen) (hbytes : (n + m) * bytes ≤ 140737488355328) (hbase : base ≤ w.heap.size)
    (h : ∀ v' w', w'.ownsRow base e size v' (n + m) (xs ++ news) → w.grownBy w' v.ownBlock → (v'.ownBlock = v.ownBlock ∨ v'.ownBlock = some w.heap.size) → K (a.put o.dst v') w') : o.wp P a w K Q := by
  obtain ⟨hl, ⟨rfl, rfl, rfl⟩ | ⟨ad, rfl, hc⟩⟩ := hsrc
  · have hn : news = [] := List.eq_nil_of_length_eq_zero (by simpa using hl)
    subst hn
    have hrun := run_append_owned_none (P := P) (w := w) base t o.type e i size ht hi v n xs hown
    unfold Oper.wp
    simp [execOp, ho, resolve, invoke, builtin, hs, hx, hrun, Result.andThen]
    exact h v w (by simpa using hown) (World.grownBy.refl w _) (.inl rfl)
  · obtain ⟨v', w', hr, h2, h3, _, h5⟩ := run_append_own_at (P := P) w base t o.type e i z size bytes ht hi hz hsize hby hzs hsz v n xs hown ad m c news hl hc h1 h63 hbytes hbase
    unfold Oper.wp execOp
    simp only [ho, resolve, invoke, builtin, Sem.run_bind, Sem.run_pure, Result.andThen_ok, List.map_toArray, List.map_cons, List.map_nil, hs, hx, hr]
    exact h v' w' h2 h3 h5
theorem wpL_src {P : Program} {w : World} {ops : Array Oper} {rest : List Oper} {o : Oper} {a : Act} {Q : Exit → Act → World → Prop} (hgd : o.guard = none) (s x : Operand) (t : TypeId)
    (ho : o.op = .call { callee := .builtin .append, args := #[s, x], argTypes := #[t, t] })
    (base : Nat) (e : TypeId) (i : TypeInfo) (z : Value) (size bytes : Nat) (ht : P.underlying t = some (.slice e)) (hi : P.info? e = some i) (hz : i.zero = some z)
    (hsize : i.size = size) (hby : i.bytes = bytes) (hzs : z.cells.size = size) (hsz : 0 < size)
    (v : Value) (n : Nat) (xs : List Value) (hs : a.eval s = v) (hown : w.ownsRow base e size v n xs)
    (A : Option Addr) (m c : Nat) (news : List Value) (hx : a.eval x = .slice A m c) (hsrc : Src w A m c size news) (h1 : ∀ u ∈ news, u.oneCell' = true)
    (h63 : n + m ≤ maxLen) (hbytes : (n + m) * bytes ≤ 140737488355328) (hbase : base ≤ w.heap.size)
    (h : ∀ v' w', w'.ownsRow base e size v' (n + m) (xs ++ news) → w.grownBy w' v.ownBlock → (v'.ownBlock = v.ownBlock ∨ v'.ownBlock = some w.heap.size) → wpList P ops Q rest (a.put o.dst v') w') : wpList P ops Q (o :: rest) a w :=
  wpList_plain hgd fun _ hK => wp_src s x t ho base e i z size bytes ht hi hz hsize hby hzs hsz v n xs hs hown A m c news hx hsrc h1 h63 hbytes hbase (fun v' w' h2 h3 h4 => hK _ _ (h v' w' h2 h3 h4))
theorem src_row {w : World} {g n size : Nat} {cs : List Value} {t : TypeId} (h : w.heap[g]? = some (.cells cs.toArray t (0, 0))) (hl : cs.length = n * size) : Src w (some ⟨g, 0, none⟩) n n size cs :=
  ⟨hl, .inr ⟨_, rfl, row_at h⟩⟩
theorem str_one {ws : List ByteArray} {u : Value} (h : u ∈ ws.map Value.string) : u.oneCell' = true := by
  obtain ⟨q, _, rfl⟩ := List.mem_map.1 h
  rfl
/-- the row that a word's taking keeps in a box -/
theorem row_box {w x : World} {rb : Nat} {d : Int} {vw vp u : Value} {b : Bool} (h : w.heap[rb]? = some (RowC d vw vp b)) (hb : Below w.heap.size w x) : (x.setCell ⟨rb, 1, none⟩ u).heap[rb]? = some (RowC d u vp b) :=
  heap_set (j := 1) (heapB hb h)
theorem row_box2 {w x : World} {rb : Nat} {d : Int} {vw vp u : Value} {b : Bool} (h : w.heap[rb]? = some (RowC d vw vp b)) (hb : Below w.heap.size w x) : (x.setCell ⟨rb, 2, none⟩ u).heap[rb]? = some (RowC d vw u b) :=
  heap_set (j := 2) (heapB hb h)
theorem own_cell {x : World} {base size n rb j : Nat} {e t : TypeId} {v u : Value} {xs : List Value} {cs : Array Value} (h : x.ownsRow base e size v n xs) (hg : x.heap[rb]? = some (.cells cs t (0, 0))) (hne : e ≠ t) : (x.setCell ⟨rb, j, none⟩ u).ownsRow base e size v n xs :=
  own_kept h (only_set (only_refl rb x) j u) (fun g hg' => by cases hg'; exact own_ne_row h hg hne)
theorem only_new {R q j : Nat} {w x : World} (h : Only R w x) (hq : w.heap.size ≤ q) (u : Value) : Only R w (x.setCell ⟨q, j, none⟩ u) :=
  ⟨h.os, h.tape, h.output, by simpa using h.size, fun k hk hne => (Below.heap_setCell x ⟨q, j, none⟩ u k (by show k ≠ q; omega)).trans (h.block k hk hne)⟩
abbrev four (x : World) (q : Nat) (a b c d : Value) : World := (((x.setCell ⟨q, 0, none⟩ a).setCell ⟨q, 1, none⟩ b).setCell ⟨q, 2, none⟩ c).setCell ⟨q, 3, none⟩ d
theorem only_four {R q : Nat} {w x : World} (h : Only R w x) (hq : w.heap.size ≤ q) (a b c d : Value) : Only R w (four x q a b c d) := only_new (only_new (only_new (only_new h hq a) hq b) hq c) hq d
theorem own_four {x : World} {base size n q : Nat} {e t : TypeId} {v : Value} {xs : List Value} {cs : Array Value} (h : x.ownsRow base e size v n xs) (hg : x.heap[q]? = some (.cells cs t (0, 0))) (hne : e ≠ t) (a b c d : Value) : (four x q a b c d).ownsRow base e size v n xs :=
  own_cell (own_cell (own_cell (own_cell h hg hne) (heap_set hg) hne) (heap_set (heap_set hg)) hne) (heap_set (heap_set (heap_set hg))) hne
theorem far_four {x : World} {g q : Nat} {o : Obj} (h : x.heap[g]? = some o) (hne : g ≠ q) (a b c d : Value) : (four x q a b c d).heap[g]? = some o :=
  heap_far (p := ⟨q, 3, none⟩) (heap_far (p := ⟨q, 2, none⟩) (heap_far (p := ⟨q, 1, none⟩) (heap_far (p := ⟨q, 0, none⟩) h hne) hne) hne) hne
theorem StX.next {w x : World} {p : Nat} {A : Option Addr} {cap : Nat} {ts : List BTok} {i : Nat} {vr vb : Value} {e l c : Int} (h : StX w p A cap ts i vr vb e l c) (hi : i < ts.length) (ho : Only p w x) (hx : x.heap[p]? = some (StC A ts.length cap (i + 1) vr vb e l c)) : StX x p A cap ts (i + 1) vr vb e l c :=
  ⟨hx, src_keep h.t (fun a ha => ho.block a.block (Nat.lt_trans (h.lt a ha) (lt_heap h.h)) (fun e => by injection e with e; have := h.lt a ha; omega)), h.lt, hi, h.nl⟩
def WordOut (p : Nat) (A : Option Addr) (cap : Nat) (ts : List BTok) (i : Nat) (vr vb : Value) (e l c : Int) (d : Int) (ws : List ByteArray) (ps : List Pl) (b : Bool) (t : BTok) (w : World) (e' : Ending) (w' : World) : Prop :=
  Only p w w' ∧ StX w' p A cap ts (i + 1) vr vb e l c ∧ ∃ vw vp, e' = .returned (.agg #[.int .i64 d, vw, vp, .bool b]) ∧ w'.ownsRow w.heap.size 9 1 vw (ws.length + 1) (ws.map Value.string ++ [.string t.b]) ∧ w'.ownsRow w.heap.size 24 2 vp (ps.length + 1) (posC ps ++ [.int .i64 t.l, .int .i64 t.c])
end Go.Proofs.Ytihmmmodimionaa.Tr
