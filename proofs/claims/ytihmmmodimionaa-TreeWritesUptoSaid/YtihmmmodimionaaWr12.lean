/- What the claim leans on, part 12 of 16: YC. -/
import Derived.Deep.CutBlock
import Derived.Deep.DeepCutAuto
import Derived.Test.YtihmmmodimionaaWr01
import Derived.Test.YtihmmmodimionaaWr02
import Derived.Test.YtihmmmodimionaaWr03
import Derived.Test.YtihmmmodimionaaWr04
import Derived.Test.YtihmmmodimionaaWr05
import Derived.Test.YtihmmmodimionaaWr06
import Derived.Test.YtihmmmodimionaaWr07
import Derived.Test.YtihmmmodimionaaWr08
import Derived.Test.YtihmmmodimionaaWr09
import Derived.Test.YtihmmmodimionaaWr10
import Derived.Test.YtihmmmodimionaaWr11
/- nodes, walked: rows as statements (printed by gen_yc.py). -/
namespace Go.Proofs.Ytihmmmodimionaa.Tr
open Go.RowKit Go.Proofs.Ytihmmmodimionaa Go.Proofs.Ytihmmmodimionaa.Lx

theorem below_four {B q : Nat} {w x : World} (h : Below B w x) (hq : B ≤ q) (a b c d : Value) : Below B w (four x q a b c d) := (((h.setCell (p := ⟨q, 0, none⟩) hq a).setCell (p := ⟨q, 1, none⟩) hq b).setCell (p := ⟨q, 2, none⟩) hq c).setCell (p := ⟨q, 3, none⟩) hq d
def NodesOut (F : Fo) (w : World) (e : Ending) (w' : World) : Prop := Below w.heap.size w w' ∧ ∃ v ys B, e = .returned v ∧ LoS w w' v F ys B
structure NL (w wr : World) (n : Nat) (L : List RowD) (d i : Nat) (va : Value) (Fd : Fo) (ys : List Value) (B : Nat → Prop) : Prop where
  bl : Below w.heap.size w wr
  lo : LoS w wr va Fd ys B
  eq : Fd.app (nodesF n d (L.drop i)) = nodesF n d L
  il : i ≤ L.length
  len : Fd.len ≤ i
theorem inR_cons (d : Nat) (r : RowD) (rs : List RowD) : inR d (r :: rs) = if d < r.deep then r :: inR d rs else [] := by
  unfold inR
  rw [List.takeWhile_cons]
  by_cases h : d < r.deep <;> simp [h]
theorem outR_cons (d : Nat) (r : RowD) (rs : List RowD) : outR d (r :: rs) = if d < r.deep then outR d rs else r :: rs := by
  unfold outR
  rw [List.dropWhile_cons]
  by_cases h : d < r.deep <;> simp [h]
theorem RwV.drop {w : World} {B : Nat → Prop} : ∀ (a : Nat) {rs : List RowD} {xs : List Value}, RwV w B rs xs → RwV w B (rs.drop a) (xs.drop (a * 4))
  | 0, rs, xs, h => by simpa using h
  | a + 1, [], xs, h => by rw [show xs = [] from h]; simp [RwV]
  | a + 1, r :: rs, xs, h => by
    obtain ⟨vw, vp, xs', e, h1, h2, h3⟩ := h
    rw [e, show (a + 1) * 4 = a * 4 + 1 + 1 + 1 + 1 by omega]
    exact RwV.drop a h3
theorem RwV.take {w : World} {B : Nat → Prop} : ∀ (a : Nat) {rs : List RowD} {xs : List Value}, RwV w B rs xs → RwV w B (rs.take a) (xs.take (a * 4))
  | 0, rs, xs, h => by simp [RwV]
  | a + 1, [], xs, h => by rw [show xs = [] from h]; simp [RwV]
  | a + 1, r :: rs, xs, h => by
    obtain ⟨vw, vp, xs', e, h1, h2, h3⟩ := h
    rw [e, show (a + 1) * 4 = a * 4 + 1 + 1 + 1 + 1 by omega]
    exact ⟨vw, vp, xs'.take (a * 4), rfl, h1, h2, RwV.take a h3⟩
theorem los_one {w x : World} {ws : List ByteArray} {ps : List (Int × Int)} {vw vp vk : Value} {K : Fo} {ys : List Value} {D : Nat → Prop} (b : Bool) (hx : w.heap.size ≤ x.heap.size) (how : x.ownsRow w.heap.size 9 1 vw ws.length (ws.map Value.string)) (hop : x.ownsRow w.heap.size 24 2 vp ps.length (posC ps)) (hk : LoS w x vk K ys D) :
    LoS w (x.alloc (NodeC vw vp b vk)) (.slice (some ⟨x.heap.size, 0, none⟩) 1 1) (.cons ws ps b K .nil) [vw, vp, .bool b, vk] (fun q => vw.ownBlock = some q ∨ vp.ownBlock = some q ∨ vk.ownBlock = some q ∨ D q) := by
  have hbl := bel_one x (NodeC vw vp b vk)
  exact ⟨lo_one b hx how hop hk.toLo, ⟨_, _, _, _, ys, [], _, _, rfl, ⟨(own_base how (Nat.zero_le _)).alloc _, fun g e => .inl e⟩, ⟨(own_base hop (Nat.zero_le _)).alloc _, fun g e => .inr (.inl e)⟩, ⟨(own_base hk.own (Nat.zero_le _)).alloc _, fun g e => .inr (.inr (.inl e))⟩, (hk.fs.keep (fun q hq => hbl.block q (hk.hB q hq).2.1)).mono (fun q hq => .inr (.inr (.inr hq))), rfl⟩⟩
theorem nodesF_len : ∀ (f d : Nat) (L : List RowD), (nodesF f d L).len ≤ L.length
  | 0, _, _ => Nat.zero_le _
  | f + 1, d, [] => Nat.zero_le _
  | f + 1, d, r :: rs => by
    have h1 := nodesF_len f d (outR d rs)
    have h2 := in_len d rs
    rw [nodesF, Fo.len, List.length_cons]
    omega
theorem inR_len {d i k : Nat} {L : List RowD} (h : inR d (L.drop (i + 1)) = (L.drop (i + 1)).take (k - (i + 1))) (hk : k ≤ L.length) : (inR d (L.drop (i + 1))).length = k - (i + 1) := by
  rw [h, List.length_take, List.length_drop]
  omega
set_option maxHeartbeats 8000000 in
set_option maxRecDepth 100000 in
theorem nodes_any : ∀ (n : Nat) (L : List RowD), L.length = n → ∀ (d : Nat) (A : Option Addr) (c : Nat) (xs : List Value) (D : Nat → Prop) (w : World), Src w A L.length c 4 xs → RwV w D L xs → (∀ q, D q → q < w.heap.size) → (∀ a, A = some a → a.block < w.heap.size) → L.length ≤ c → c ≤ maxLen → L.length ≤ 1000000 → (∀ r ∈ L, r.ws.length ≤ 1000000 ∧ r.ps.length ≤ 1000000) → d + L.length ≤ 2000000 →
    Calls Try.prog 21 #[.slice A L.length c, .int .i64 d] w (NodesOut (nodesF n d L) w) := by
  intro n
  induction n using Nat.strongRecOn with
  | _ n ih =>
  intro L hn d A c xs D w hs hv hD hA hlc hcm hl hw hdl
  obtain ⟨si, sz0, sz, ss, sb2⟩ := info_parts infoS
  obtain ⟨qi, qz0, qz, qs, qb⟩ := info_parts infoP
  obtain ⟨ni, nz0, nz, nss, nb0⟩ := info_parts infoN
  have HIH := hide ih
  have HS := hide hs
  have HV := hide hv
  have HD := hide hD
  have HA := hide hA
  have HW := hide hw
  have HN := hide hn
  have H0 := hide (show NL w w n L d 0 (.slice none 0 0) .nil [] (fun _ => False) from ⟨Below.refl _ _, los_nil w w, rfl, Nat.zero_le _, Nat.le_refl _⟩)
  clear hs hv hD hA hw ih hn
  go_enter Try.func21, Try.ntmps21
  go_wp2_with fail
  go_loopw [5, 6] (fun va j wr => ∃ (i : Nat) (Fd : Fo) (ys : List Value) (B : Nat → Prop), j = .int .i64 i ∧ NL w wr n L d i va Fd ys B) (fun _ j _ => L.length - (intOf j).toNat)
  case atStart => exact ⟨0, .nil, [], _, rfl, H0.out⟩
  case round =>
    clear H0
    obtain ⟨i, Fd, ys, B, rfl, hX⟩ := hrel
    obtain ⟨wa, rfl⟩ : ∃ x, x = wr := ⟨wr, rfl⟩
    obtain ⟨Av, cv, rfl⟩ := own_slice hX.lo.own
    have HX := hide hX
    have hil := hX.il
    have hfl := hX.len
    clear hX
    rcases Nat.lt_or_ge i L.length with hlt | hge
    · have d1 : decide (i < L.length) = true := decide_eq_true hlt
      have d1' : decide ((i : Int) < (L.length : Int)) = true := decide_eq_true (by omega)
      have d2 : ((i : Int) < (L.length : Int)) := by omega
      obtain ⟨r, hr⟩ : ∃ r, L[i]? = some r := ⟨L[i], List.getElem?_eq_getElem hlt⟩
      have hdrop : L.drop i = r :: L.drop (i + 1) := by rw [List.drop_eq_getElem_cons hlt]; congr 1; rw [List.getElem?_eq_getElem hlt] at hr; injection hr
      obtain ⟨ab, ao, rfl⟩ := src_spot HS.out (by omega) (by decide)
      have hadB := HA.out _ rfl
      have HSC := hide (src_cells (HS.out.below HX.out.bl))
      obtain ⟨vw, vp, g0, g1, g2, g3, hvw, hvp⟩ := HV.out.at hr
      obtain ⟨Aw, cw, rfl, hws, hwB⟩ := hvw
      obtain ⟨Ap, cp, rfl, hps, hpB⟩ := hvp
      have hwr := HW.out r (List.mem_of_getElem? hr)
      have HNSw := hide (show NS ab (ao + i * 4) (.int .i64 r.deep) (.slice Aw r.ws.length cw) (.slice Ap r.ps.length cp) (.bool r.op) wa from ⟨HSC.out _ _ g0, by rw [Nat.add_assoc]; exact HSC.out _ _ g1, by rw [Nat.add_assoc]; exact HSC.out _ _ g2, by rw [Nat.add_assoc]; exact HSC.out _ _ g3⟩)
      have HWS := hide (src_keep hws (fun a ha => HX.out.bl.block _ (HD.out _ (hwB a ha).1)))
      have HPS := hide (src_keep hps (fun a ha => HX.out.bl.block _ (HD.out _ (hpB a ha))))
      have HDR := hide hdrop
      have HLT := hide hlt
      have hwl : r.ws.length ≤ 1000000 := hwr.1
      have hpl : r.ps.length ≤ 1000000 := hwr.2
      clear g0 g1 g2 g3 hws hwB hps hpB hr hdrop hwr hlt
      go_upto_block 2 with fail
      clear d1 d1'
      go_cut [7] (fun kv wx => ∃ k : Nat, kv = .int .i64 k ∧ wx = wa ∧ i + 1 ≤ k ∧ k ≤ L.length ∧ inR d (L.drop (i + 1)) = (L.drop (i + 1)).take (k - (i + 1)) ∧ outR d (L.drop (i + 1)) = L.drop k)
      case first =>
        go_wp2_with fail
        go_loopw [7] (fun j wx => ∃ k : Nat, j = .int .i64 k ∧ wx = wa ∧ i + 1 ≤ k ∧ k ≤ L.length ∧ inR d (L.drop (i + 1)) = (L.drop (i + 1)).take (k - (i + 1)) ++ inR d (L.drop k) ∧ outR d (L.drop (i + 1)) = outR d (L.drop k)) (fun j _ => L.length - (intOf j).toNat)
        case atStart => exact ⟨i + 1, by go_num, rfl, Nat.le_refl _, HLT.out, by simp, rfl⟩
        case round =>
          obtain ⟨k, rfl, rfl, hik, hkl, hin, hout⟩ := hrel
          have HIN := hide hin
          have HOUT := hide hout
          clear hin hout
          rcases Nat.lt_or_ge k L.length with hlk | hgk
          · have z1 : decide (k < L.length) = true := decide_eq_true hlk
            have z1' : decide ((k : Int) < (L.length : Int)) = true := decide_eq_true (by omega)
            have z2 : ((k : Int) < (L.length : Int)) := by omega
            obtain ⟨q, hq⟩ : ∃ q, L[k]? = some q := ⟨L[k], List.getElem?_eq_getElem hlk⟩
            have hdq : L.drop k = q :: L.drop (k + 1) := by rw [List.drop_eq_getElem_cons hlk]; congr 1; rw [List.getElem?_eq_getElem hlk] at hq; injection hq
            obtain ⟨_, _, g0, -, -, -, -, -⟩ := HV.out.at hq
            have c0 := HSC.out _ _ g0
            have HDQ := hide hdq
            have HQK := hide (show (L.drop (i + 1))[k - (i + 1)]? = some q from by rw [List.getElem?_drop]; rw [show i + 1 + (k - (i + 1)) = k by omega]; exact hq)
            have HLK := hide hlk
            clear hq hdq g0
            by_cases hqd : d < q.deep
            · have y1 : decide (d < q.deep) = true := decide_eq_true hqd
              have y1' : decide ((d : Int) < (q.deep : Int)) = true := decide_eq_true (by omega)
              have HQD := hide hqd
              clear hqd
              go_wp2_with fail
              go_roundw
              case rel =>
                refine ⟨k + 1, by go_num, trivial, by omega, HLK.out, ?_, ?_⟩
                · rw [HIN.out, HDQ.out, inR_cons, if_pos HQD.out, show k + 1 - (i + 1) = (k - (i + 1)) + 1 by omega, List.take_add_one, HQK.out]
                  simp
                · rw [HOUT.out, HDQ.out, outR_cons, if_pos HQD.out]
              case measure => have := HLK.out; simp [intOf]; omega
            · have y1 : decide (d < q.deep) = false := decide_eq_false hqd
              have y1' : decide ((d : Int) < (q.deep : Int)) = false := decide_eq_false (by omega)
              have HQD := hide hqd
              clear hqd
              go_wp2_with fail
              go_meet
              case rel => exact ⟨k, rfl, rfl, hik, hkl, by rw [HIN.out, HDQ.out, inR_cons, if_neg HQD.out]; simp, by rw [HOUT.out, HDQ.out, outR_cons, if_neg HQD.out]⟩
          · have z1 : decide (k < L.length) = false := decide_eq_false (by omega)
            have z1' : decide ((k : Int) < (L.length : Int)) = false := decide_eq_false (by omega)
            have HNIL := hide (show L.drop k = [] from List.drop_eq_nil_of_le hgk)
            clear hgk
            go_wp2_with fail
            go_meet
            case rel => exact ⟨k, rfl, rfl, hik, hkl, by rw [HIN.out, HNIL.out]; simp [inR], by rw [HOUT.out, HNIL.out]; rfl⟩
      case rest =>
        obtain ⟨k, rfl, rfl, hik, hkl, hin, hout⟩ := hcut
        have HIN := hide hin
        have HOUT := hide hout
        clear hin hout
        go_upto_region 7 with fail
        obtain ⟨wr, rfl⟩ : ∃ x, x = wc := ⟨wc, rfl⟩
        go_cut [8] (fun s8 wx => ∃ (nb : Nat) (A1 : Option Addr) (c1 : Nat) (A2 : Option Addr) (c2 : Nat), s8 = .pointer (some ⟨nb, 0, none⟩) ∧ wr.heap.size ≤ nb ∧ Below wr.heap.size wr wx ∧ wx.heap[nb]? = some (NodeC (.slice A1 r.ws.length c1) (.slice A2 r.ps.length c2) r.op (.slice none 0 0)) ∧ wx.ownsRow wr.heap.size 9 1 (.slice A1 r.ws.length c1) r.ws.length (r.ws.map Value.string) ∧ wx.ownsRow wr.heap.size 24 2 (.slice A2 r.ps.length c2) r.ps.length (posC r.ps))
        case first =>
          have HNS := HNSw
          have hns : NS ab (ao + i * 4) (.int .i64 r.deep) (.slice Aw r.ws.length cw) (.slice Ap r.ps.length cp) (.bool r.op) wr.drew := ⟨HNS.out.c0, HNS.out.c1, HNS.out.c2, HNS.out.c3⟩
          have HNSD := hide hns
          have k1 := fun x => (pin_in hns x).c1
          have k2 := fun x => (pin_in hns x).c2
          have k3 := fun x => (pin_in hns x).c3
          have HB := hide (Below.refl wr.heap.size wr).drew
          clear hns
          refine wp_region_tree (NS ab (ao + i * 4) (.int .i64 r.deep) (.slice Aw r.ws.length cw) (.slice Ap r.ps.length cp) (.bool r.op)) (fun k => ([21] : List Nat).contains k) (.take [1, 2, 3, 4, 5, 8, 9, 10, 11, 12, 14, 15, 16, 17, 18] (.fork3 0 (.fork3 6 (.fork 7 (.fork 13 (.take [19] (.step 20 (.step 21 .done))) 20 (.step 13 (.take [19] (.step 21 .done)))) 20 (.step 7 (.step 13 (.take [19] (.step 21 .done))))) 7 (.fork 6 (.fork 13 (.take [19] (.step 20 (.step 21 .done))) 20 (.step 13 (.take [19] (.step 21 .done)))) 20 (.step 6 (.step 13 (.take [19] (.step 21 .done))))) 20 (.fork 6 (.step 7 (.step 13 (.take [19] (.step 21 .done)))) 7 (.step 6 (.step 13 (.take [19] (.step 21 .done)))))) 7 (.fork 0 (.fork 6 (.fork 13 (.take [19] (.step 20 (.step 21 .done))) 20 (.step 13 (.take [19] (.step 21 .done)))) 20 (.step 6 (.step 13 (.take [19] (.step 21 .done))))) 20 (.step 0 (.step 6 (.step 13 (.take [19] (.step 21 .done)))))) 20 (.fork 0 (.fork 6 (.step 7 (.step 13 (.take [19] (.step 21 .done)))) 7 (.step 6 (.step 13 (.take [19] (.step 21 .done))))) 7 (.step 0 (.step 6 (.step 13 (.take [19] (.step 21 .done)))))))) (by kernel_rfl) (by kernel_rfl) (by kernel_rfl) (by kernel_rfl) (.take (.cons (.succ (.zero)) (.cons (.succ (.succ (.zero))) (.cons (.succ (.succ (.succ (.zero)))) (.cons (.succ (.succ (.succ (.succ (.zero))))) (.cons (.succ (.succ (.succ (.succ (.succ (.zero)))))) (.cons (.succ (.succ (.succ (.succ (.succ (.succ (.succ (.succ (.zero))))))))) (.cons (.succ (.succ (.succ (.succ (.succ (.succ (.succ (.succ (.succ (.zero)))))))))) (.cons (.succ (.succ (.succ (.succ (.succ (.succ (.succ (.succ (.succ (.succ (.zero))))))))))) (.cons (.succ (.succ (.succ (.succ (.succ (.succ (.succ (.succ (.succ (.succ (.succ (.zero)))))))))))) (.cons (.succ (.succ (.succ (.succ (.succ (.succ (.succ (.succ (.succ (.succ (.succ (.succ (.zero))))))))))))) (.cons (.succ (.succ (.succ (.succ (.succ (.succ (.succ (.succ (.succ (.succ (.succ (.succ (.succ (.succ (.zero))))))))))))))) (.cons (.succ (.succ (.succ (.succ (.succ (.succ (.succ (.succ (.succ (.succ (.succ (.succ (.succ (.succ (.succ (.zero)))))))))))))))) (.cons (.succ (.succ (.succ (.succ (.succ (.succ (.succ (.succ (.succ (.succ (.succ (.succ (.succ (.succ (.succ (.succ (.zero))))))))))))))))) (.cons (.succ (.succ (.succ (.succ (.succ (.succ (.succ (.succ (.succ (.succ (.succ (.succ (.succ (.succ (.succ (.succ (.succ (.zero)))))))))))))))))) (.cons (.succ (.succ (.succ (.succ (.succ (.succ (.succ (.succ (.succ (.succ (.succ (.succ (.succ (.succ (.succ (.succ (.succ (.succ (.zero))))))))))))))))))) .nil))))))))))))))) (.fork3 (.zero) rfl (.fork3 (.succ (.succ (.succ (.succ (.succ (.succ (.zero))))))) rfl (.fork (.succ (.succ (.succ (.succ (.succ (.succ (.succ (.zero)))))))) rfl (.fork (.succ (.succ (.succ (.succ (.succ (.succ (.succ (.succ (.succ (.succ (.succ (.succ (.succ (.zero)))))))))))))) rfl (.take (.cons (.succ (.succ (.succ (.succ (.succ (.succ (.succ (.succ (.succ (.succ (.succ (.succ (.succ (.succ (.succ (.succ (.succ (.succ (.succ (.zero)))))))))))))))))))) .nil) (.step (.succ (.succ (.succ (.succ (.succ (.succ (.succ (.succ (.succ (.succ (.succ (.succ (.succ (.succ (.succ (.succ (.succ (.succ (.succ (.succ (.zero))))))))))))))))))))) rfl (.step (.succ (.succ (.succ (.succ (.succ (.succ (.succ (.succ (.succ (.succ (.succ (.succ (.succ (.succ (.succ (.succ (.succ (.succ (.succ (.succ (.succ (.zero)))))))))))))))))))))) rfl .done))) (.succ (.succ (.succ (.succ (.succ (.succ (.succ (.succ (.succ (.succ (.succ (.succ (.succ (.succ (.succ (.succ (.succ (.succ (.succ (.succ (.zero))))))))))))))))))))) rfl (.step (.succ (.succ (.succ (.succ (.succ (.succ (.succ (.succ (.succ (.succ (.succ (.succ (.succ (.zero)))))))))))))) rfl (.take (.cons (.succ (.succ (.succ (.succ (.succ (.succ (.succ (.succ (.succ (.succ (.succ (.succ (.succ (.succ (.succ (.succ (.succ (.succ (.succ (.zero)))))))))))))))))))) .nil) (.step (.succ (.succ (.succ (.succ (.succ (.succ (.succ (.succ (.succ (.succ (.succ (.succ (.succ (.succ (.succ (.succ (.succ (.succ (.succ (.succ (.succ (.zero)))))))))))))))))))))) rfl .done)))) (.succ (.succ (.succ (.succ (.succ (.succ (.succ (.succ (.succ (.succ (.succ (.succ (.succ (.succ (.succ (.succ (.succ (.succ (.succ (.succ (.zero))))))))))))))))))))) rfl (.step (.succ (.succ (.succ (.succ (.succ (.succ (.succ (.zero)))))))) rfl (.step (.succ (.succ (.succ (.succ (.succ (.succ (.succ (.succ (.succ (.succ (.succ (.succ (.succ (.zero)))))))))))))) rfl (.take (.cons (.succ (.succ (.succ (.succ (.succ (.succ (.succ (.succ (.succ (.succ (.succ (.succ (.succ (.succ (.succ (.succ (.succ (.succ (.succ (.zero)))))))))))))))))))) .nil) (.step (.succ (.succ (.succ (.succ (.succ (.succ (.succ (.succ (.succ (.succ (.succ (.succ (.succ (.succ (.succ (.succ (.succ (.succ (.succ (.succ (.succ (.zero)))))))))))))))))))))) rfl .done))))) (.succ (.succ (.succ (.succ (.succ (.succ (.succ (.zero)))))))) rfl (.fork (.succ (.succ (.succ (.succ (.succ (.succ (.zero))))))) rfl (.fork (.succ (.succ (.succ (.succ (.succ (.succ (.succ (.succ (.succ (.succ (.succ (.succ (.succ (.zero)))))))))))))) rfl (.take (.cons (.succ (.succ (.succ (.succ (.succ (.succ (.succ (.succ (.succ (.succ (.succ (.succ (.succ (.succ (.succ (.succ (.succ (.succ (.succ (.zero)))))))))))))))))))) .nil) (.step (.succ (.succ (.succ (.succ (.succ (.succ (.succ (.succ (.succ (.succ (.succ (.succ (.succ (.succ (.succ (.succ (.succ (.succ (.succ (.succ (.zero))))))))))))))))))))) rfl (.step (.succ (.succ (.succ (.succ (.succ (.succ (.succ (.succ (.succ (.succ (.succ (.succ (.succ (.succ (.succ (.succ (.succ (.succ (.succ (.succ (.succ (.zero)))))))))))))))))))))) rfl .done))) (.succ (.succ (.succ (.succ (.succ (.succ (.succ (.succ (.succ (.succ (.succ (.succ (.succ (.succ (.succ (.succ (.succ (.succ (.succ (.succ (.zero))))))))))))))))))))) rfl (.step (.succ (.succ (.succ (.succ (.succ (.succ (.succ (.succ (.succ (.succ (.succ (.succ (.succ (.zero)))))))))))))) rfl (.take (.cons (.succ (.succ (.succ (.succ (.succ (.succ (.succ (.succ (.succ (.succ (.succ (.succ (.succ (.succ (.succ (.succ (.succ (.succ (.succ (.zero)))))))))))))))))))) .nil) (.step (.succ (.succ (.succ (.succ (.succ (.succ (.succ (.succ (.succ (.succ (.succ (.succ (.succ (.succ (.succ (.succ (.succ (.succ (.succ (.succ (.succ (.zero)))))))))))))))))))))) rfl .done)))) (.succ (.succ (.succ (.succ (.succ (.succ (.succ (.succ (.succ (.succ (.succ (.succ (.succ (.succ (.succ (.succ (.succ (.succ (.succ (.succ (.zero))))))))))))))))))))) rfl (.step (.succ (.succ (.succ (.succ (.succ (.succ (.zero))))))) rfl (.step (.succ (.succ (.succ (.succ (.succ (.succ (.succ (.succ (.succ (.succ (.succ (.succ (.succ (.zero)))))))))))))) rfl (.take (.cons (.succ (.succ (.succ (.succ (.succ (.succ (.succ (.succ (.succ (.succ (.succ (.succ (.succ (.succ (.succ (.succ (.succ (.succ (.succ (.zero)))))))))))))))))))) .nil) (.step (.succ (.succ (.succ (.succ (.succ (.succ (.succ (.succ (.succ (.succ (.succ (.succ (.succ (.succ (.succ (.succ (.succ (.succ (.succ (.succ (.succ (.zero)))))))))))))))))))))) rfl .done))))) (.succ (.succ (.succ (.succ (.succ (.succ (.succ (.succ (.succ (.succ (.succ (.succ (.succ (.succ (.succ (.succ (.succ (.succ (.succ (.succ (.zero))))))))))))))))))))) rfl (.fork (.succ (.succ (.succ (.succ (.succ (.succ (.zero))))))) rfl (.step (.succ (.succ (.succ (.succ (.succ (.succ (.succ (.zero)))))))) rfl (.step (.succ (.succ (.succ (.succ (.succ (.succ (.succ (.succ (.succ (.succ (.succ (.succ (.succ (.zero)))))))))))))) rfl (.take (.cons (.succ (.succ (.succ (.succ (.succ (.succ (.succ (.succ (.succ (.succ (.succ (.succ (.succ (.succ (.succ (.succ (.succ (.succ (.succ (.zero)))))))))))))))))))) .nil) (.step (.succ (.succ (.succ (.succ (.succ (.succ (.succ (.succ (.succ (.succ (.succ (.succ (.succ (.succ (.succ (.succ (.succ (.succ (.succ (.succ (.succ (.zero)))))))))))))))))))))) rfl .done)))) (.succ (.succ (.succ (.succ (.succ (.succ (.succ (.zero)))))))) rfl (.step (.succ (.succ (.succ (.succ (.succ (.succ (.zero))))))) rfl (.step (.succ (.succ (.succ (.succ (.succ (.succ (.succ (.succ (.succ (.succ (.succ (.succ (.succ (.zero)))))))))))))) rfl (.take (.cons (.succ (.succ (.succ (.succ (.succ (.succ (.succ (.succ (.succ (.succ (.succ (.succ (.succ (.succ (.succ (.succ (.succ (.succ (.succ (.zero)))))))))))))))))))) .nil) (.step (.succ (.succ (.succ (.succ (.succ (.succ (.succ (.succ (.succ (.succ (.succ (.succ (.succ (.succ (.succ (.succ (.succ (.succ (.succ (.succ (.succ (.zero)))))))))))))))))))))) rfl .done)))))) (.succ (.succ (.succ (.succ (.succ (.succ (.succ (.zero)))))))) rfl (.fork (.zero) rfl (.fork (.succ (.succ (.succ (.succ (.succ (.succ (.zero))))))) rfl (.fork (.succ (.succ (.succ (.succ (.succ (.succ (.succ (.succ (.succ (.succ (.succ (.succ (.succ (.zero)))))))))))))) rfl (.take (.cons (.succ (.succ (.succ (.succ (.succ (.succ (.succ (.succ (.succ (.succ (.succ (.succ (.succ (.succ (.succ (.succ (.succ (.succ (.succ (.zero)))))))))))))))))))) .nil) (.step (.succ (.succ (.succ (.succ (.succ (.succ (.succ (.succ (.succ (.succ (.succ (.succ (.succ (.succ (.succ (.succ (.succ (.succ (.succ (.succ (.zero))))))))))))))))))))) rfl (.step (.succ (.succ (.succ (.succ (.succ (.succ (.succ (.succ (.succ (.succ (.succ (.succ (.succ (.succ (.succ (.succ (.succ (.succ (.succ (.succ (.succ (.zero)))))))))))))))))))))) rfl .done))) (.succ (.succ (.succ (.succ (.succ (.succ (.succ (.succ (.succ (.succ (.succ (.succ (.succ (.succ (.succ (.succ (.succ (.succ (.succ (.succ (.zero))))))))))))))))))))) rfl (.step (.succ (.succ (.succ (.succ (.succ (.succ (.succ (.succ (.succ (.succ (.succ (.succ (.succ (.zero)))))))))))))) rfl (.take (.cons (.succ (.succ (.succ (.succ (.succ (.succ (.succ (.succ (.succ (.succ (.succ (.succ (.succ (.succ (.succ (.succ (.succ (.succ (.succ (.zero)))))))))))))))))))) .nil) (.step (.succ (.succ (.succ (.succ (.succ (.succ (.succ (.succ (.succ (.succ (.succ (.succ (.succ (.succ (.succ (.succ (.succ (.succ (.succ (.succ (.succ (.zero)))))))))))))))))))))) rfl .done)))) (.succ (.succ (.succ (.succ (.succ (.succ (.succ (.succ (.succ (.succ (.succ (.succ (.succ (.succ (.succ (.succ (.succ (.succ (.succ (.succ (.zero))))))))))))))))))))) rfl (.step (.succ (.succ (.succ (.succ (.succ (.succ (.zero))))))) rfl (.step (.succ (.succ (.succ (.succ (.succ (.succ (.succ (.succ (.succ (.succ (.succ (.succ (.succ (.zero)))))))))))))) rfl (.take (.cons (.succ (.succ (.succ (.succ (.succ (.succ (.succ (.succ (.succ (.succ (.succ (.succ (.succ (.succ (.succ (.succ (.succ (.succ (.succ (.zero)))))))))))))))))))) .nil) (.step (.succ (.succ (.succ (.succ (.succ (.succ (.succ (.succ (.succ (.succ (.succ (.succ (.succ (.succ (.succ (.succ (.succ (.succ (.succ (.succ (.succ (.zero)))))))))))))))))))))) rfl .done))))) (.succ (.succ (.succ (.succ (.succ (.succ (.succ (.succ (.succ (.succ (.succ (.succ (.succ (.succ (.succ (.succ (.succ (.succ (.succ (.succ (.zero))))))))))))))))))))) rfl (.step (.zero) rfl (.step (.succ (.succ (.succ (.succ (.succ (.succ (.zero))))))) rfl (.step (.succ (.succ (.succ (.succ (.succ (.succ (.succ (.succ (.succ (.succ (.succ (.succ (.succ (.zero)))))))))))))) rfl (.take (.cons (.succ (.succ (.succ (.succ (.succ (.succ (.succ (.succ (.succ (.succ (.succ (.succ (.succ (.succ (.succ (.succ (.succ (.succ (.succ (.zero)))))))))))))))))))) .nil) (.step (.succ (.succ (.succ (.succ (.succ (.succ (.succ (.succ (.succ (.succ (.succ (.succ (.succ (.succ (.succ (.succ (.succ (.succ (.succ (.succ (.succ (.zero)))))))))))))))))))))) rfl .done)))))) (.succ (.succ (.succ (.succ (.succ (.succ (.succ (.succ (.succ (.succ (.succ (.succ (.succ (.succ (.succ (.succ (.succ (.succ (.succ (.succ (.zero))))))))))))))))))))) rfl (.fork (.zero) rfl (.fork (.succ (.succ (.succ (.succ (.succ (.succ (.zero))))))) rfl (.step (.succ (.succ (.succ (.succ (.succ (.succ (.succ (.zero)))))))) rfl (.step (.succ (.succ (.succ (.succ (.succ (.succ (.succ (.succ (.succ (.succ (.succ (.succ (.succ (.zero)))))))))))))) rfl (.take (.cons (.succ (.succ (.succ (.succ (.succ (.succ (.succ (.succ (.succ (.succ (.succ (.succ (.succ (.succ (.succ (.succ (.succ (.succ (.succ (.zero)))))))))))))))))))) .nil) (.step (.succ (.succ (.succ (.succ (.succ (.succ (.succ (.succ (.succ (.succ (.succ (.succ (.succ (.succ (.succ (.succ (.succ (.succ (.succ (.succ (.succ (.zero)))))))))))))))))))))) rfl .done)))) (.succ (.succ (.succ (.succ (.succ (.succ (.succ (.zero)))))))) rfl (.step (.succ (.succ (.succ (.succ (.succ (.succ (.zero))))))) rfl (.step (.succ (.succ (.succ (.succ (.succ (.succ (.succ (.succ (.succ (.succ (.succ (.succ (.succ (.zero)))))))))))))) rfl (.take (.cons (.succ (.succ (.succ (.succ (.succ (.succ (.succ (.succ (.succ (.succ (.succ (.succ (.succ (.succ (.succ (.succ (.succ (.succ (.succ (.zero)))))))))))))))))))) .nil) (.step (.succ (.succ (.succ (.succ (.succ (.succ (.succ (.succ (.succ (.succ (.succ (.succ (.succ (.succ (.succ (.succ (.succ (.succ (.succ (.succ (.succ (.zero)))))))))))))))))))))) rfl .done))))) (.succ (.succ (.succ (.succ (.succ (.succ (.succ (.zero)))))))) rfl (.step (.zero) rfl (.step (.succ (.succ (.succ (.succ (.succ (.succ (.zero))))))) rfl (.step (.succ (.succ (.succ (.succ (.succ (.succ (.succ (.succ (.succ (.succ (.succ (.succ (.succ (.zero)))))))))))))) rfl (.take (.cons (.succ (.succ (.succ (.succ (.succ (.succ (.succ (.succ (.succ (.succ (.succ (.succ (.succ (.succ (.succ (.succ (.succ (.succ (.succ (.zero)))))))))))))))))))) .nil) (.step (.succ (.succ (.succ (.succ (.succ (.succ (.succ (.succ (.succ (.succ (.succ (.succ (.succ (.succ (.succ (.succ (.succ (.succ (.succ (.succ (.succ (.zero)))))))))))))))))))))) rfl .done)))))))) ?hQ ?hS ?_
          case hQ => exact fun _ _ _ _ _ h => h
          case hS => exact HNSD.out
          refine wpT_take ?_
          repeat (first | go_big_quiet_step ((fail)) | quiet_step ((fail)))
          refine wpQuiet_nil ?_
          generalize wr.drew = x0 at *
          refine wpT_fork3 ?_ ?_ ?_
          · refine wpT_step rfl ?_
            intro K1 hK1
            go_wp2_with fail
            have HBq := hide (HB.out.alloc HB.out.size (Obj.cells #[] 9))
            have HOW := hide (World.ownsRow_made (e := 9) (size := 1) (base := wr.heap.size) x0 #[] 0 HB.out.size (Nat.zero_le _) rfl)
            refine hK1.out _ _ (fun _ => pin_mem (HNS.out.below HBq.out)) ?_
            clear HB hK1; have HB := HBq; clear HBq
            generalize hb_bw : x0.heap.size = bw at *
            generalize x0.alloc (Obj.cells #[] 9) = x1 at *
            clear hb_bw
            refine wpT_fork3 ?_ ?_ ?_
            · refine wpT_step rfl ?_
              intro K1 hK1
              have hsr := HWS.out.below HB.out
              refine wp_src (.tmp 30) (.tmp 35) 41 rfl wr.heap.size 9 si _ 1 16 Try.underlying41 sz0 sz ss sb2 rfl (by decide) _ 0 [] rfl HOW.out Aw r.ws.length cw (r.ws.map Value.string) rfl hsr (fun u hu => str_one hu) ?c63 ?cby HB.out.size ?_
              case c63 => unfold maxLen; omega
              case cby => omega
              intro u1 x2 hown hgrow _
              simp only [Nat.zero_add, List.nil_append] at hown ⊢
              have HBq := hide (HB.out.grown hgrow HB.out.size (fun g e => (HOW.out.lt g e).1))
              have HOWq := hide hown; clear HOW; have HOW := HOWq; clear HOWq
              obtain ⟨A1, c1, hu1⟩ := own_slice HOW.out
              subst hu1
              refine hK1.out _ _ (fun _ => pin_mem (HNS.out.below HBq.out)) ?_
              clear HB hK1 hown hgrow hsr; have HB := HBq; clear HBq
              refine wpT_fork ?_ ?_
              · refine wpT_step rfl ?_
                intro K1 hK1
                go_wp2_with fail
                have HBq := hide (HB.out.alloc HB.out.size (Obj.cells #[] 24))
                have HOWq := hide (HOW.out.alloc (Obj.cells #[] 24)); clear HOW; have HOW := HOWq; clear HOWq
                have HOP := hide (World.ownsRow_made (e := 24) (size := 2) (base := wr.heap.size) x2 #[] 0 HB.out.size (Nat.zero_le _) rfl)
                refine hK1.out _ _ (fun _ => pin_mem (HNS.out.below HBq.out)) ?_
                clear HB hK1; have HB := HBq; clear HBq
                generalize hb_bp : x2.heap.size = bp at *
                generalize x2.alloc (Obj.cells #[] 24) = x3 at *
                clear hb_bp
                refine wpT_fork ?_ ?_
                · refine wpT_step rfl ?_
                  intro K1 hK1
                  have hsr := HPS.out.below HB.out
                  refine wp_src (.tmp 37) (.tmp 42) 42 rfl wr.heap.size 24 qi _ 2 16 Try.underlying42 qz0 qz qs qb rfl (by decide) _ 0 [] rfl HOP.out Ap r.ps.length cp (posC r.ps) rfl hsr (fun u hu => posC_one hu) ?c63 ?cby HB.out.size ?_
                  case c63 => unfold maxLen; omega
                  case cby => omega
                  intro u3 x4 hown hgrow _
                  simp only [Nat.zero_add, List.nil_append] at hown ⊢
                  have HBq := hide (HB.out.grown hgrow HB.out.size (fun g e => (HOP.out.lt g e).1))
                  have HOWq := hide (own_kept HOW.out hgrow (fun g e => own_types HOP.out HOW.out (by decide) g e)); clear HOW; have HOW := HOWq; clear HOWq
                  have HOPq := hide hown; clear HOP; have HOP := HOPq; clear HOPq
                  obtain ⟨A2, c2, hu3⟩ := own_slice HOP.out
                  subst hu3
                  refine hK1.out _ _ (fun _ => pin_mem (HNS.out.below HBq.out)) ?_
                  clear HB hK1 hown hgrow hsr; have HB := HBq; clear HBq
                  refine wpT_take ?_
                  repeat (first | go_big_quiet_step ((fail)) | quiet_step ((fail)))
                  refine wpQuiet_nil ?_
                  refine wpT_step rfl ?_
                  intro K1 hK1
                  go_wp2_with fail
                  have HBq := hide (HB.out.alloc HB.out.size (NodeC (.slice none 0 0) (.slice none 0 0) false (.slice none 0 0)))
                  have HOWq := hide (HOW.out.alloc (NodeC (.slice none 0 0) (.slice none 0 0) false (.slice none 0 0))); clear HOW; have HOW := HOWq; clear HOWq
                  have HOPq := hide (HOP.out.alloc (NodeC (.slice none 0 0) (.slice none 0 0) false (.slice none 0 0))); clear HOP; have HOP := HOPq; clear HOPq
                  have HND := hide (heap_new x4 (NodeC (.slice none 0 0) (.slice none 0 0) false (.slice none 0 0)))
                  have HNS2 := hide (show wr.heap.size ≤ x4.heap.size from HB.out.size)
                  refine hK1.out _ _ (fun _ => pin_mem (HNS.out.below HBq.out)) ?_
                  clear HB hK1; have HB := HBq; clear HBq
                  generalize hb_nb : x4.heap.size = nb at *
                  generalize x4.alloc (NodeC (.slice none 0 0) (.slice none 0 0) false (.slice none 0 0)) = x5 at *
                  clear hb_nb
                  have z0 := cell_heap (j := 0) HND.out rfl
                  have z1 := cell_heap (j := 1) HND.out rfl
                  have z2 := cell_heap (j := 2) HND.out rfl
                  have z3 := cell_heap (j := 3) HND.out rfl
                  have f0 := frozen_heap (j := 0) HND.out
                  have f1 := frozen_heap (j := 1) HND.out
                  have f2 := frozen_heap (j := 2) HND.out
                  have f3 := frozen_heap (j := 3) HND.out
                  refine wpT_step rfl ?_
                  intro K1 hK1
                  go_wp2_with fail
                  refine hK1.out _ _ (fun h => by cases h) ?_
                  clear hK1 z0 z1 z2 z3 f0 f1 f2 f3
                  refine wpT_done ?_
                  (try go_wp2_with fail)
                  go_meet
                  case rel => exact ⟨nb, A1, c1, A2, c2, rfl, HNS2.out, below_four HB.out HNS2.out _ _ _ _, heap_set (j := 3) (heap_set (j := 2) (heap_set (j := 1) (heap_set (j := 0) HND.out))), own_four HOW.out HND.out (by decide) _ _ _ _, own_four HOP.out HND.out (by decide) _ _ _ _⟩
                · refine wpT_step rfl ?_
                  intro K1 hK1
                  go_wp2_with fail
                  have HBq := hide (HB.out.alloc HB.out.size (NodeC (.slice none 0 0) (.slice none 0 0) false (.slice none 0 0)))
                  have HOWq := hide (HOW.out.alloc (NodeC (.slice none 0 0) (.slice none 0 0) false (.slice none 0 0))); clear HOW; have HOW := HOWq; clear HOWq
                  have HOPq := hide (HOP.out.alloc (NodeC (.slice none 0 0) (.slice none 0 0) false (.slice none 0 0))); clear HOP; have HOP := HOPq; clear HOPq
                  have HND := hide (heap_new x3 (NodeC (.slice none 0 0) (.slice none 0 0) false (.slice none 0 0)))
                  have HNS2 := hide (show wr.heap.size ≤ x3.heap.size from HB.out.size)
                  refine hK1.out _ _ (fun _ => pin_mem (HNS.out.below HBq.out)) ?_
                  clear HB hK1; have HB := HBq; clear HBq
                  generalize hb_nb : x3.heap.size = nb at *
                  generalize x3.alloc (NodeC (.slice none 0 0) (.slice none 0 0) false (.slice none 0 0)) = x4 at *
                  clear hb_nb
                  refine wpT_step rfl ?_
                  intro K1 hK1
                  have hsr := HPS.out.below HB.out
                  refine wp_src (.tmp 37) (.tmp 42) 42 rfl wr.heap.size 24 qi _ 2 16 Try.underlying42 qz0 qz qs qb rfl (by decide) _ 0 [] rfl HOP.out Ap r.ps.length cp (posC r.ps) rfl hsr (fun u hu => posC_one hu) ?c63 ?cby HB.out.size ?_
                  case c63 => unfold maxLen; omega
                  case cby => omega
                  intro u4 x5 hown hgrow _
                  simp only [Nat.zero_add, List.nil_append] at hown ⊢
                  have HBq := hide (HB.out.grown hgrow HB.out.size (fun g e => (HOP.out.lt g e).1))
                  have HOWq := hide (own_kept HOW.out hgrow (fun g e => own_types HOP.out HOW.out (by decide) g e)); clear HOW; have HOW := HOWq; clear HOWq
                  have HNDq := hide (heap_grown HND.out hgrow (own_ne_row HOP.out HND.out (by decide))); clear HND; have HND := HNDq; clear HNDq
                  have HOPq := hide hown; clear HOP; have HOP := HOPq; clear HOPq
                  obtain ⟨A2, c2, hu4⟩ := own_slice HOP.out
                  subst hu4
                  refine hK1.out _ _ (fun _ => pin_mem (HNS.out.below HBq.out)) ?_
                  clear HB hK1 hown hgrow hsr; have HB := HBq; clear HBq
                  refine wpT_take ?_
                  repeat (first | go_big_quiet_step ((fail)) | quiet_step ((fail)))
                  refine wpQuiet_nil ?_
                  have z0 := cell_heap (j := 0) HND.out rfl
                  have z1 := cell_heap (j := 1) HND.out rfl
                  have z2 := cell_heap (j := 2) HND.out rfl
                  have z3 := cell_heap (j := 3) HND.out rfl
                  have f0 := frozen_heap (j := 0) HND.out
                  have f1 := frozen_heap (j := 1) HND.out
                  have f2 := frozen_heap (j := 2) HND.out
                  have f3 := frozen_heap (j := 3) HND.out
                  refine wpT_step rfl ?_
                  intro K1 hK1
                  go_wp2_with fail
                  refine hK1.out _ _ (fun h => by cases h) ?_
                  clear hK1 z0 z1 z2 z3 f0 f1 f2 f3
                  refine wpT_done ?_
                  (try go_wp2_with fail)
                  go_meet
                  case rel => exact ⟨nb, A1, c1, A2, c2, rfl, HNS2.out, below_four HB.out HNS2.out _ _ _ _, heap_set (j := 3) (heap_set (j := 2) (heap_set (j := 1) (heap_set (j := 0) HND.out))), own_four HOW.out HND.out (by decide) _ _ _ _, own_four HOP.out HND.out (by decide) _ _ _ _⟩
              · refine wpT_step rfl ?_
                intro K1 hK1
                go_wp2_with fail
                have HBq := hide (HB.out.alloc HB.out.size (NodeC (.slice none 0 0) (.slice none 0 0) false (.slice none 0 0)))
                have HOWq := hide (HOW.out.alloc (NodeC (.slice none 0 0) (.slice none 0 0) false (.slice none 0 0))); clear HOW; have HOW := HOWq; clear HOWq
                have HND := hide (heap_new x2 (NodeC (.slice none 0 0) (.slice none 0 0) false (.slice none 0 0)))
                have HNS2 := hide (show wr.heap.size ≤ x2.heap.size from HB.out.size)
                refine hK1.out _ _ (fun _ => pin_mem (HNS.out.below HBq.out)) ?_
                clear HB hK1; have HB := HBq; clear HBq
                generalize hb_nb : x2.heap.size = nb at *
                generalize x2.alloc (NodeC (.slice none 0 0) (.slice none 0 0) false (.slice none 0 0)) = x3 at *
                clear hb_nb
                refine wpT_step rfl ?_
                intro K1 hK1
                go_wp2_with fail
                have HBq := hide (HB.out.alloc HB.out.size (Obj.cells #[] 24))
                have HOWq := hide (HOW.out.alloc (Obj.cells #[] 24)); clear HOW; have HOW := HOWq; clear HOWq
                have HNDq := hide (heap_old (p := (Obj.cells #[] 24)) HND.out); clear HND; have HND := HNDq; clear HNDq
                have HOP := hide (World.ownsRow_made (e := 24) (size := 2) (base := wr.heap.size) x3 #[] 0 HB.out.size (Nat.zero_le _) rfl)
                refine hK1.out _ _ (fun _ => pin_mem (HNS.out.below HBq.out)) ?_
                clear HB hK1; have HB := HBq; clear HBq
                generalize hb_bp : x3.heap.size = bp at *
                generalize x3.alloc (Obj.cells #[] 24) = x4 at *
                clear hb_bp
                refine wpT_step rfl ?_
                intro K1 hK1
                have hsr := HPS.out.below HB.out
                refine wp_src (.tmp 37) (.tmp 42) 42 rfl wr.heap.size 24 qi _ 2 16 Try.underlying42 qz0 qz qs qb rfl (by decide) _ 0 [] rfl HOP.out Ap r.ps.length cp (posC r.ps) rfl hsr (fun u hu => posC_one hu) ?c63 ?cby HB.out.size ?_
                case c63 => unfold maxLen; omega
                case cby => omega
                intro u4 x5 hown hgrow _
                simp only [Nat.zero_add, List.nil_append] at hown ⊢
                have HBq := hide (HB.out.grown hgrow HB.out.size (fun g e => (HOP.out.lt g e).1))
                have HOWq := hide (own_kept HOW.out hgrow (fun g e => own_types HOP.out HOW.out (by decide) g e)); clear HOW; have HOW := HOWq; clear HOWq
                have HNDq := hide (heap_grown HND.out hgrow (own_ne_row HOP.out HND.out (by decide))); clear HND; have HND := HNDq; clear HNDq
                have HOPq := hide hown; clear HOP; have HOP := HOPq; clear HOPq
                obtain ⟨A2, c2, hu4⟩ := own_slice HOP.out
                subst hu4
                refine hK1.out _ _ (fun _ => pin_mem (HNS.out.below HBq.out)) ?_
                clear HB hK1 hown hgrow hsr; have HB := HBq; clear HBq
                refine wpT_take ?_
                repeat (first | go_big_quiet_step ((fail)) | quiet_step ((fail)))
                refine wpQuiet_nil ?_
                have z0 := cell_heap (j := 0) HND.out rfl
                have z1 := cell_heap (j := 1) HND.out rfl
                have z2 := cell_heap (j := 2) HND.out rfl
                have z3 := cell_heap (j := 3) HND.out rfl
                have f0 := frozen_heap (j := 0) HND.out
                have f1 := frozen_heap (j := 1) HND.out
                have f2 := frozen_heap (j := 2) HND.out
                have f3 := frozen_heap (j := 3) HND.out
                refine wpT_step rfl ?_
                intro K1 hK1
                go_wp2_with fail
                refine hK1.out _ _ (fun h => by cases h) ?_
                clear hK1 z0 z1 z2 z3 f0 f1 f2 f3
                refine wpT_done ?_
                (try go_wp2_with fail)
                go_meet
                case rel => exact ⟨nb, A1, c1, A2, c2, rfl, HNS2.out, below_four HB.out HNS2.out _ _ _ _, heap_set (j := 3) (heap_set (j := 2) (heap_set (j := 1) (heap_set (j := 0) HND.out))), own_four HOW.out HND.out (by decide) _ _ _ _, own_four HOP.out HND.out (by decide) _ _ _ _⟩
            · refine wpT_step rfl ?_
              intro K1 hK1
              go_wp2_with fail
              have HBq := hide (HB.out.alloc HB.out.size (Obj.cells #[] 24))
              have HOWq := hide (HOW.out.alloc (Obj.cells #[] 24)); clear HOW; have HOW := HOWq; clear HOWq
              have HOP := hide (World.ownsRow_made (e := 24) (size := 2) (base := wr.heap.size) x1 #[] 0 HB.out.size (Nat.zero_le _) rfl)
              refine hK1.out _ _ (fun _ => pin_mem (HNS.out.below HBq.out)) ?_
              clear HB hK1; have HB := HBq; clear HBq
              generalize hb_bp : x1.heap.size = bp at *
              generalize x1.alloc (Obj.cells #[] 24) = x2 at *
              clear hb_bp
              refine wpT_fork ?_ ?_
              · refine wpT_step rfl ?_
                intro K1 hK1
                have hsr := HWS.out.below HB.out
                refine wp_src (.tmp 30) (.tmp 35) 41 rfl wr.heap.size 9 si _ 1 16 Try.underlying41 sz0 sz ss sb2 rfl (by decide) _ 0 [] rfl HOW.out Aw r.ws.length cw (r.ws.map Value.string) rfl hsr (fun u hu => str_one hu) ?c63 ?cby HB.out.size ?_
                case c63 => unfold maxLen; omega
                case cby => omega
                intro u2 x3 hown hgrow _
                simp only [Nat.zero_add, List.nil_append] at hown ⊢
                have HBq := hide (HB.out.grown hgrow HB.out.size (fun g e => (HOW.out.lt g e).1))
                have HOPq := hide (own_kept HOP.out hgrow (fun g e => own_types HOW.out HOP.out (by decide) g e)); clear HOP; have HOP := HOPq; clear HOPq
                have HOWq := hide hown; clear HOW; have HOW := HOWq; clear HOWq
                obtain ⟨A1, c1, hu2⟩ := own_slice HOW.out
                subst hu2
                refine hK1.out _ _ (fun _ => pin_mem (HNS.out.below HBq.out)) ?_
                clear HB hK1 hown hgrow hsr; have HB := HBq; clear HBq
                refine wpT_fork ?_ ?_
                · refine wpT_step rfl ?_
                  intro K1 hK1
                  have hsr := HPS.out.below HB.out
                  refine wp_src (.tmp 37) (.tmp 42) 42 rfl wr.heap.size 24 qi _ 2 16 Try.underlying42 qz0 qz qs qb rfl (by decide) _ 0 [] rfl HOP.out Ap r.ps.length cp (posC r.ps) rfl hsr (fun u hu => posC_one hu) ?c63 ?cby HB.out.size ?_
                  case c63 => unfold maxLen; omega
                  case cby => omega
                  intro u3 x4 hown hgrow _
                  simp only [Nat.zero_add, List.nil_append] at hown ⊢
                  have HBq := hide (HB.out.grown hgrow HB.out.size (fun g e => (HOP.out.lt g e).1))
                  have HOWq := hide (own_kept HOW.out hgrow (fun g e => own_types HOP.out HOW.out (by decide) g e)); clear HOW; have HOW := HOWq; clear HOWq
                  have HOPq := hide hown; clear HOP; have HOP := HOPq; clear HOPq
                  obtain ⟨A2, c2, hu3⟩ := own_slice HOP.out
                  subst hu3
                  refine hK1.out _ _ (fun _ => pin_mem (HNS.out.below HBq.out)) ?_
                  clear HB hK1 hown hgrow hsr; have HB := HBq; clear HBq
                  refine wpT_take ?_
                  repeat (first | go_big_quiet_step ((fail)) | quiet_step ((fail)))
                  refine wpQuiet_nil ?_
                  refine wpT_step rfl ?_
                  intro K1 hK1
                  go_wp2_with fail
                  have HBq := hide (HB.out.alloc HB.out.size (NodeC (.slice none 0 0) (.slice none 0 0) false (.slice none 0 0)))
                  have HOWq := hide (HOW.out.alloc (NodeC (.slice none 0 0) (.slice none 0 0) false (.slice none 0 0))); clear HOW; have HOW := HOWq; clear HOWq
                  have HOPq := hide (HOP.out.alloc (NodeC (.slice none 0 0) (.slice none 0 0) false (.slice none 0 0))); clear HOP; have HOP := HOPq; clear HOPq
                  have HND := hide (heap_new x4 (NodeC (.slice none 0 0) (.slice none 0 0) false (.slice none 0 0)))
                  have HNS2 := hide (show wr.heap.size ≤ x4.heap.size from HB.out.size)
                  refine hK1.out _ _ (fun _ => pin_mem (HNS.out.below HBq.out)) ?_
                  clear HB hK1; have HB := HBq; clear HBq
                  generalize hb_nb : x4.heap.size = nb at *
                  generalize x4.alloc (NodeC (.slice none 0 0) (.slice none 0 0) false (.slice none 0 0)) = x5 at *
                  clear hb_nb
                  have z0 := cell_heap (j := 0) HND.out rfl
                  have z1 := cell_heap (j := 1) HND.out rfl
                  have z2 := cell_heap (j := 2) HND.out rfl
                  have z3 := cell_heap (j := 3) HND.out rfl
                  have f0 := frozen_heap (j := 0) HND.out
                  have f1 := frozen_heap (j := 1) HND.out
                  have f2 := frozen_heap (j := 2) HND.out
                  have f3 := frozen_heap (j := 3) HND.out
                  refine wpT_step rfl ?_
                  intro K1 hK1
                  go_wp2_with fail
                  refine hK1.out _ _ (fun h => by cases h) ?_
                  clear hK1 z0 z1 z2 z3 f0 f1 f2 f3
                  refine wpT_done ?_
                  (try go_wp2_with fail)
                  go_meet
                  case rel => exact ⟨nb, A1, c1, A2, c2, rfl, HNS2.out, below_four HB.out HNS2.out _ _ _ _, heap_set (j := 3) (heap_set (j := 2) (heap_set (j := 1) (heap_set (j := 0) HND.out))), own_four HOW.out HND.out (by decide) _ _ _ _, own_four HOP.out HND.out (by decide) _ _ _ _⟩
                · refine wpT_step rfl ?_
                  intro K1 hK1
                  go_wp2_with fail
                  have HBq := hide (HB.out.alloc HB.out.size (NodeC (.slice none 0 0) (.slice none 0 0) false (.slice none 0 0)))
                  have HOWq := hide (HOW.out.alloc (NodeC (.slice none 0 0) (.slice none 0 0) false (.slice none 0 0))); clear HOW; have HOW := HOWq; clear HOWq
                  have HOPq := hide (HOP.out.alloc (NodeC (.slice none 0 0) (.slice none 0 0) false (.slice none 0 0))); clear HOP; have HOP := HOPq; clear HOPq
                  have HND := hide (heap_new x3 (NodeC (.slice none 0 0) (.slice none 0 0) false (.slice none 0 0)))
                  have HNS2 := hide (show wr.heap.size ≤ x3.heap.size from HB.out.size)
                  refine hK1.out _ _ (fun _ => pin_mem (HNS.out.below HBq.out)) ?_
                  clear HB hK1; have HB := HBq; clear HBq
                  generalize hb_nb : x3.heap.size = nb at *
                  generalize x3.alloc (NodeC (.slice none 0 0) (.slice none 0 0) false (.slice none 0 0)) = x4 at *
                  clear hb_nb
                  refine wpT_step rfl ?_
                  intro K1 hK1
                  have hsr := HPS.out.below HB.out
                  refine wp_src (.tmp 37) (.tmp 42) 42 rfl wr.heap.size 24 qi _ 2 16 Try.underlying42 qz0 qz qs qb rfl (by decide) _ 0 [] rfl HOP.out Ap r.ps.length cp (posC r.ps) rfl hsr (fun u hu => posC_one hu) ?c63 ?cby HB.out.size ?_
                  case c63 => unfold maxLen; omega
                  case cby => omega
                  intro u4 x5 hown hgrow _
                  simp only [Nat.zero_add, List.nil_append] at hown ⊢
                  have HBq := hide (HB.out.grown hgrow HB.out.size (fun g e => (HOP.out.lt g e).1))
                  have HOWq := hide (own_kept HOW.out hgrow (fun g e => own_types HOP.out HOW.out (by decide) g e)); clear HOW; have HOW := HOWq; clear HOWq
                  have HNDq := hide (heap_grown HND.out hgrow (own_ne_row HOP.out HND.out (by decide))); clear HND; have HND := HNDq; clear HNDq
                  have HOPq := hide hown; clear HOP; have HOP := HOPq; clear HOPq
                  obtain ⟨A2, c2, hu4⟩ := own_slice HOP.out
                  subst hu4
                  refine hK1.out _ _ (fun _ => pin_mem (HNS.out.below HBq.out)) ?_
                  clear HB hK1 hown hgrow hsr; have HB := HBq; clear HBq
                  refine wpT_take ?_
                  repeat (first | go_big_quiet_step ((fail)) | quiet_step ((fail)))
                  refine wpQuiet_nil ?_
                  have z0 := cell_heap (j := 0) HND.out rfl
                  have z1 := cell_heap (j := 1) HND.out rfl
                  have z2 := cell_heap (j := 2) HND.out rfl
                  have z3 := cell_heap (j := 3) HND.out rfl
                  have f0 := frozen_heap (j := 0) HND.out
                  have f1 := frozen_heap (j := 1) HND.out
                  have f2 := frozen_heap (j := 2) HND.out
                  have f3 := frozen_heap (j := 3) HND.out
                  refine wpT_step rfl ?_
                  intro K1 hK1
                  go_wp2_with fail
                  refine hK1.out _ _ (fun h => by cases h) ?_
                  clear hK1 z0 z1 z2 z3 f0 f1 f2 f3
                  refine wpT_done ?_
                  (try go_wp2_with fail)
                  go_meet
                  case rel => exact ⟨nb, A1, c1, A2, c2, rfl, HNS2.out, below_four HB.out HNS2.out _ _ _ _, heap_set (j := 3) (heap_set (j := 2) (heap_set (j := 1) (heap_set (j := 0) HND.out))), own_four HOW.out HND.out (by decide) _ _ _ _, own_four HOP.out HND.out (by decide) _ _ _ _⟩
              · refine wpT_step rfl ?_
                intro K1 hK1
                go_wp2_with fail
                have HBq := hide (HB.out.alloc HB.out.size (NodeC (.slice none 0 0) (.slice none 0 0) false (.slice none 0 0)))
                have HOWq := hide (HOW.out.alloc (NodeC (.slice none 0 0) (.slice none 0 0) false (.slice none 0 0))); clear HOW; have HOW := HOWq; clear HOWq
                have HOPq := hide (HOP.out.alloc (NodeC (.slice none 0 0) (.slice none 0 0) false (.slice none 0 0))); clear HOP; have HOP := HOPq; clear HOPq
                have HND := hide (heap_new x2 (NodeC (.slice none 0 0) (.slice none 0 0) false (.slice none 0 0)))
                have HNS2 := hide (show wr.heap.size ≤ x2.heap.size from HB.out.size)
                refine hK1.out _ _ (fun _ => pin_mem (HNS.out.below HBq.out)) ?_
                clear HB hK1; have HB := HBq; clear HBq
                generalize hb_nb : x2.heap.size = nb at *
                generalize x2.alloc (NodeC (.slice none 0 0) (.slice none 0 0) false (.slice none 0 0)) = x3 at *
                clear hb_nb
                refine wpT_step rfl ?_
                intro K1 hK1
                have hsr := HWS.out.below HB.out
                refine wp_src (.tmp 30) (.tmp 35) 41 rfl wr.heap.size 9 si _ 1 16 Try.underlying41 sz0 sz ss sb2 rfl (by decide) _ 0 [] rfl HOW.out Aw r.ws.length cw (r.ws.map Value.string) rfl hsr (fun u hu => str_one hu) ?c63 ?cby HB.out.size ?_
                case c63 => unfold maxLen; omega
                case cby => omega
                intro u3 x4 hown hgrow _
                simp only [Nat.zero_add, List.nil_append] at hown ⊢
                have HBq := hide (HB.out.grown hgrow HB.out.size (fun g e => (HOW.out.lt g e).1))
                have HOPq := hide (own_kept HOP.out hgrow (fun g e => own_types HOW.out HOP.out (by decide) g e)); clear HOP; have HOP := HOPq; clear HOPq
                have HNDq := hide (heap_grown HND.out hgrow (own_ne_row HOW.out HND.out (by decide))); clear HND; have HND := HNDq; clear HNDq
                have HOWq := hide hown; clear HOW; have HOW := HOWq; clear HOWq
                obtain ⟨A1, c1, hu3⟩ := own_slice HOW.out
                subst hu3
                refine hK1.out _ _ (fun _ => pin_mem (HNS.out.below HBq.out)) ?_
                clear HB hK1 hown hgrow hsr; have HB := HBq; clear HBq
                refine wpT_step rfl ?_
                intro K1 hK1
                have hsr := HPS.out.below HB.out
                refine wp_src (.tmp 37) (.tmp 42) 42 rfl wr.heap.size 24 qi _ 2 16 Try.underlying42 qz0 qz qs qb rfl (by decide) _ 0 [] rfl HOP.out Ap r.ps.length cp (posC r.ps) rfl hsr (fun u hu => posC_one hu) ?c63 ?cby HB.out.size ?_
                case c63 => unfold maxLen; omega
                case cby => omega
                intro u4 x5 hown hgrow _
                simp only [Nat.zero_add, List.nil_append] at hown ⊢
                have HBq := hide (HB.out.grown hgrow HB.out.size (fun g e => (HOP.out.lt g e).1))
                have HOWq := hide (own_kept HOW.out hgrow (fun g e => own_types HOP.out HOW.out (by decide) g e)); clear HOW; have HOW := HOWq; clear HOWq
                have HNDq := hide (heap_grown HND.out hgrow (own_ne_row HOP.out HND.out (by decide))); clear HND; have HND := HNDq; clear HNDq
                have HOPq := hide hown; clear HOP; have HOP := HOPq; clear HOPq
                obtain ⟨A2, c2, hu4⟩ := own_slice HOP.out
                subst hu4
                refine hK1.out _ _ (fun _ => pin_mem (HNS.out.below HBq.out)) ?_
                clear HB hK1 hown hgrow hsr; have HB := HBq; clear HBq
                refine wpT_take ?_
                repeat (first | go_big_quiet_step ((fail)) | quiet_step ((fail)))
                refine wpQuiet_nil ?_
                have z0 := cell_heap (j := 0) HND.out rfl
                have z1 := cell_heap (j := 1) HND.out rfl
                have z2 := cell_heap (j := 2) HND.out rfl
                have z3 := cell_heap (j := 3) HND.out rfl
                have f0 := frozen_heap (j := 0) HND.out
                have f1 := frozen_heap (j := 1) HND.out
                have f2 := frozen_heap (j := 2) HND.out
                have f3 := frozen_heap (j := 3) HND.out
                refine wpT_step rfl ?_
                intro K1 hK1
                go_wp2_with fail
                refine hK1.out _ _ (fun h => by cases h) ?_
                clear hK1 z0 z1 z2 z3 f0 f1 f2 f3
                refine wpT_done ?_
                (try go_wp2_with fail)
                go_meet
                case rel => exact ⟨nb, A1, c1, A2, c2, rfl, HNS2.out, below_four HB.out HNS2.out _ _ _ _, heap_set (j := 3) (heap_set (j := 2) (heap_set (j := 1) (heap_set (j := 0) HND.out))), own_four HOW.out HND.out (by decide) _ _ _ _, own_four HOP.out HND.out (by decide) _ _ _ _⟩
            · refine wpT_step rfl ?_
              intro K1 hK1
              go_wp2_with fail
              have HBq := hide (HB.out.alloc HB.out.size (NodeC (.slice none 0 0) (.slice none 0 0) false (.slice none 0 0)))
              have HOWq := hide (HOW.out.alloc (NodeC (.slice none 0 0) (.slice none 0 0) false (.slice none 0 0))); clear HOW; have HOW := HOWq; clear HOWq
              have HND := hide (heap_new x1 (NodeC (.slice none 0 0) (.slice none 0 0) false (.slice none 0 0)))
              have HNS2 := hide (show wr.heap.size ≤ x1.heap.size from HB.out.size)
              refine hK1.out _ _ (fun _ => pin_mem (HNS.out.below HBq.out)) ?_
              clear HB hK1; have HB := HBq; clear HBq
              generalize hb_nb : x1.heap.size = nb at *
              generalize x1.alloc (NodeC (.slice none 0 0) (.slice none 0 0) false (.slice none 0 0)) = x2 at *
              clear hb_nb
              refine wpT_fork ?_ ?_
              · refine wpT_step rfl ?_
                intro K1 hK1
                have hsr := HWS.out.below HB.out
                refine wp_src (.tmp 30) (.tmp 35) 41 rfl wr.heap.size 9 si _ 1 16 Try.underlying41 sz0 sz ss sb2 rfl (by decide) _ 0 [] rfl HOW.out Aw r.ws.length cw (r.ws.map Value.string) rfl hsr (fun u hu => str_one hu) ?c63 ?cby HB.out.size ?_
                case c63 => unfold maxLen; omega
                case cby => omega
                intro u2 x3 hown hgrow _
                simp only [Nat.zero_add, List.nil_append] at hown ⊢
                have HBq := hide (HB.out.grown hgrow HB.out.size (fun g e => (HOW.out.lt g e).1))
                have HNDq := hide (heap_grown HND.out hgrow (own_ne_row HOW.out HND.out (by decide))); clear HND; have HND := HNDq; clear HNDq
                have HOWq := hide hown; clear HOW; have HOW := HOWq; clear HOWq
                obtain ⟨A1, c1, hu2⟩ := own_slice HOW.out
                subst hu2
                refine hK1.out _ _ (fun _ => pin_mem (HNS.out.below HBq.out)) ?_
                clear HB hK1 hown hgrow hsr; have HB := HBq; clear HBq
                refine wpT_step rfl ?_
                intro K1 hK1
                go_wp2_with fail
                have HBq := hide (HB.out.alloc HB.out.size (Obj.cells #[] 24))
                have HOWq := hide (HOW.out.alloc (Obj.cells #[] 24)); clear HOW; have HOW := HOWq; clear HOWq
                have HNDq := hide (heap_old (p := (Obj.cells #[] 24)) HND.out); clear HND; have HND := HNDq; clear HNDq
                have HOP := hide (World.ownsRow_made (e := 24) (size := 2) (base := wr.heap.size) x3 #[] 0 HB.out.size (Nat.zero_le _) rfl)
                refine hK1.out _ _ (fun _ => pin_mem (HNS.out.below HBq.out)) ?_
                clear HB hK1; have HB := HBq; clear HBq
                generalize hb_bp : x3.heap.size = bp at *
                generalize x3.alloc (Obj.cells #[] 24) = x4 at *
                clear hb_bp
                refine wpT_step rfl ?_
                intro K1 hK1
                have hsr := HPS.out.below HB.out
                refine wp_src (.tmp 37) (.tmp 42) 42 rfl wr.heap.size 24 qi _ 2 16 Try.underlying42 qz0 qz qs qb rfl (by decide) _ 0 [] rfl HOP.out Ap r.ps.length cp (posC r.ps) rfl hsr (fun u hu => posC_one hu) ?c63 ?cby HB.out.size ?_
                case c63 => unfold maxLen; omega
                case cby => omega
                intro u4 x5 hown hgrow _
                simp only [Nat.zero_add, List.nil_append] at hown ⊢
                have HBq := hide (HB.out.grown hgrow HB.out.size (fun g e => (HOP.out.lt g e).1))
                have HOWq := hide (own_kept HOW.out hgrow (fun g e => own_types HOP.out HOW.out (by decide) g e)); clear HOW; have HOW := HOWq; clear HOWq
                have HNDq := hide (heap_grown HND.out hgrow (own_ne_row HOP.out HND.out (by decide))); clear HND; have HND := HNDq; clear HNDq
                have HOPq := hide hown; clear HOP; have HOP := HOPq; clear HOPq
                obtain ⟨A2, c2, hu4⟩ := own_slice HOP.out
                subst hu4
                refine hK1.out _ _ (fun _ => pin_mem (HNS.out.below HBq.out)) ?_
                clear HB hK1 hown hgrow hsr; have HB := HBq; clear HBq
                refine wpT_take ?_
                repeat (first | go_big_quiet_step ((fail)) | quiet_step ((fail)))
                refine wpQuiet_nil ?_
                have z0 := cell_heap (j := 0) HND.out rfl
                have z1 := cell_heap (j := 1) HND.out rfl
                have z2 := cell_heap (j := 2) HND.out rfl
                have z3 := cell_heap (j := 3) HND.out rfl
                have f0 := frozen_heap (j := 0) HND.out
                have f1 := frozen_heap (j := 1) HND.out
                have f2 := frozen_heap (j := 2) HND.out
                have f3 := frozen_heap (j := 3) HND.out
                refine wpT_step rfl ?_
                intro K1 hK1
                go_wp2_with fail
                refine hK1.out _ _ (fun h => by cases h) ?_
                clear hK1 z0 z1 z2 z3 f0 f1 f2 f3
                refine wpT_done ?_
                (try go_wp2_with fail)
                go_meet
                case rel => exact ⟨nb, A1, c1, A2, c2, rfl, HNS2.out, below_four HB.out HNS2.out _ _ _ _, heap_set (j := 3) (heap_set (j := 2) (heap_set (j := 1) (heap_set (j := 0) HND.out))), own_four HOW.out HND.out (by decide) _ _ _ _, own_four HOP.out HND.out (by decide) _ _ _ _⟩
              · refine wpT_step rfl ?_
                intro K1 hK1
                go_wp2_with fail
                have HBq := hide (HB.out.alloc HB.out.size (Obj.cells #[] 24))
                have HOWq := hide (HOW.out.alloc (Obj.cells #[] 24)); clear HOW; have HOW := HOWq; clear HOWq
                have HNDq := hide (heap_old (p := (Obj.cells #[] 24)) HND.out); clear HND; have HND := HNDq; clear HNDq
                have HOP := hide (World.ownsRow_made (e := 24) (size := 2) (base := wr.heap.size) x2 #[] 0 HB.out.size (Nat.zero_le _) rfl)
                refine hK1.out _ _ (fun _ => pin_mem (HNS.out.below HBq.out)) ?_
                clear HB hK1; have HB := HBq; clear HBq
                generalize hb_bp : x2.heap.size = bp at *
                generalize x2.alloc (Obj.cells #[] 24) = x3 at *
                clear hb_bp
                refine wpT_step rfl ?_
                intro K1 hK1
                have hsr := HWS.out.below HB.out
                refine wp_src (.tmp 30) (.tmp 35) 41 rfl wr.heap.size 9 si _ 1 16 Try.underlying41 sz0 sz ss sb2 rfl (by decide) _ 0 [] rfl HOW.out Aw r.ws.length cw (r.ws.map Value.string) rfl hsr (fun u hu => str_one hu) ?c63 ?cby HB.out.size ?_
                case c63 => unfold maxLen; omega
                case cby => omega
                intro u3 x4 hown hgrow _
                simp only [Nat.zero_add, List.nil_append] at hown ⊢
                have HBq := hide (HB.out.grown hgrow HB.out.size (fun g e => (HOW.out.lt g e).1))
                have HOPq := hide (own_kept HOP.out hgrow (fun g e => own_types HOW.out HOP.out (by decide) g e)); clear HOP; have HOP := HOPq; clear HOPq
                have HNDq := hide (heap_grown HND.out hgrow (own_ne_row HOW.out HND.out (by decide))); clear HND; have HND := HNDq; clear HNDq
                have HOWq := hide hown; clear HOW; have HOW := HOWq; clear HOWq
                obtain ⟨A1, c1, hu3⟩ := own_slice HOW.out
                subst hu3
                refine hK1.out _ _ (fun _ => pin_mem (HNS.out.below HBq.out)) ?_
                clear HB hK1 hown hgrow hsr; have HB := HBq; clear HBq
                refine wpT_step rfl ?_
                intro K1 hK1
                have hsr := HPS.out.below HB.out
                refine wp_src (.tmp 37) (.tmp 42) 42 rfl wr.heap.size 24 qi _ 2 16 Try.underlying42 qz0 qz qs qb rfl (by decide) _ 0 [] rfl HOP.out Ap r.ps.length cp (posC r.ps) rfl hsr (fun u hu => posC_one hu) ?c63 ?cby HB.out.size ?_
                case c63 => unfold maxLen; omega
                case cby => omega
                intro u4 x5 hown hgrow _
                simp only [Nat.zero_add, List.nil_append] at hown ⊢
                have HBq := hide (HB.out.grown hgrow HB.out.size (fun g e => (HOP.out.lt g e).1))
                have HOWq := hide (own_kept HOW.out hgrow (fun g e => own_types HOP.out HOW.out (by decide) g e)); clear HOW; have HOW := HOWq; clear HOWq
                have HNDq := hide (heap_grown HND.out hgrow (own_ne_row HOP.out HND.out (by decide))); clear HND; have HND := HNDq; clear HNDq
                have HOPq := hide hown; clear HOP; have HOP := HOPq; clear HOPq
                obtain ⟨A2, c2, hu4⟩ := own_slice HOP.out
                subst hu4
                refine hK1.out _ _ (fun _ => pin_mem (HNS.out.below HBq.out)) ?_
                clear HB hK1 hown hgrow hsr; have HB := HBq; clear HBq
                refine wpT_take ?_
                repeat (first | go_big_quiet_step ((fail)) | quiet_step ((fail)))
                refine wpQuiet_nil ?_
                have z0 := cell_heap (j := 0) HND.out rfl
                have z1 := cell_heap (j := 1) HND.out rfl
                have z2 := cell_heap (j := 2) HND.out rfl
                have z3 := cell_heap (j := 3) HND.out rfl
                have f0 := frozen_heap (j := 0) HND.out
                have f1 := frozen_heap (j := 1) HND.out
                have f2 := frozen_heap (j := 2) HND.out
                have f3 := frozen_heap (j := 3) HND.out
                refine wpT_step rfl ?_
                intro K1 hK1
                go_wp2_with fail
                refine hK1.out _ _ (fun h => by cases h) ?_
                clear hK1 z0 z1 z2 z3 f0 f1 f2 f3
                refine wpT_done ?_
                (try go_wp2_with fail)
                go_meet
                case rel => exact ⟨nb, A1, c1, A2, c2, rfl, HNS2.out, below_four HB.out HNS2.out _ _ _ _, heap_set (j := 3) (heap_set (j := 2) (heap_set (j := 1) (heap_set (j := 0) HND.out))), own_four HOW.out HND.out (by decide) _ _ _ _, own_four HOP.out HND.out (by decide) _ _ _ _⟩
          · refine wpT_step rfl ?_
            intro K1 hK1
            go_wp2_with fail
            have HBq := hide (HB.out.alloc HB.out.size (Obj.cells #[] 24))
            have HOP := hide (World.ownsRow_made (e := 24) (size := 2) (base := wr.heap.size) x0 #[] 0 HB.out.size (Nat.zero_le _) rfl)
            refine hK1.out _ _ (fun _ => pin_mem (HNS.out.below HBq.out)) ?_
            clear HB hK1; have HB := HBq; clear HBq
            generalize hb_bp : x0.heap.size = bp at *
            generalize x0.alloc (Obj.cells #[] 24) = x1 at *
            clear hb_bp
            refine wpT_fork ?_ ?_
            · refine wpT_step rfl ?_
              intro K1 hK1
              go_wp2_with fail
              have HBq := hide (HB.out.alloc HB.out.size (Obj.cells #[] 9))
              have HOPq := hide (HOP.out.alloc (Obj.cells #[] 9)); clear HOP; have HOP := HOPq; clear HOPq
              have HOW := hide (World.ownsRow_made (e := 9) (size := 1) (base := wr.heap.size) x1 #[] 0 HB.out.size (Nat.zero_le _) rfl)
              refine hK1.out _ _ (fun _ => pin_mem (HNS.out.below HBq.out)) ?_
              clear HB hK1; have HB := HBq; clear HBq
              generalize hb_bw : x1.heap.size = bw at *
              generalize x1.alloc (Obj.cells #[] 9) = x2 at *
              clear hb_bw
              refine wpT_fork ?_ ?_
              · refine wpT_step rfl ?_
                intro K1 hK1
                have hsr := HWS.out.below HB.out
                refine wp_src (.tmp 30) (.tmp 35) 41 rfl wr.heap.size 9 si _ 1 16 Try.underlying41 sz0 sz ss sb2 rfl (by decide) _ 0 [] rfl HOW.out Aw r.ws.length cw (r.ws.map Value.string) rfl hsr (fun u hu => str_one hu) ?c63 ?cby HB.out.size ?_
                case c63 => unfold maxLen; omega
                case cby => omega
                intro u2 x3 hown hgrow _
                simp only [Nat.zero_add, List.nil_append] at hown ⊢
                have HBq := hide (HB.out.grown hgrow HB.out.size (fun g e => (HOW.out.lt g e).1))
                have HOPq := hide (own_kept HOP.out hgrow (fun g e => own_types HOW.out HOP.out (by decide) g e)); clear HOP; have HOP := HOPq; clear HOPq
                have HOWq := hide hown; clear HOW; have HOW := HOWq; clear HOWq
                obtain ⟨A1, c1, hu2⟩ := own_slice HOW.out
                subst hu2
                refine hK1.out _ _ (fun _ => pin_mem (HNS.out.below HBq.out)) ?_
                clear HB hK1 hown hgrow hsr; have HB := HBq; clear HBq
                refine wpT_fork ?_ ?_
                · refine wpT_step rfl ?_
                  intro K1 hK1
                  have hsr := HPS.out.below HB.out
                  refine wp_src (.tmp 37) (.tmp 42) 42 rfl wr.heap.size 24 qi _ 2 16 Try.underlying42 qz0 qz qs qb rfl (by decide) _ 0 [] rfl HOP.out Ap r.ps.length cp (posC r.ps) rfl hsr (fun u hu => posC_one hu) ?c63 ?cby HB.out.size ?_
                  case c63 => unfold maxLen; omega
                  case cby => omega
                  intro u3 x4 hown hgrow _
                  simp only [Nat.zero_add, List.nil_append] at hown ⊢
                  have HBq := hide (HB.out.grown hgrow HB.out.size (fun g e => (HOP.out.lt g e).1))
                  have HOWq := hide (own_kept HOW.out hgrow (fun g e => own_types HOP.out HOW.out (by decide) g e)); clear HOW; have HOW := HOWq; clear HOWq
                  have HOPq := hide hown; clear HOP; have HOP := HOPq; clear HOPq
                  obtain ⟨A2, c2, hu3⟩ := own_slice HOP.out
                  subst hu3
                  refine hK1.out _ _ (fun _ => pin_mem (HNS.out.below HBq.out)) ?_
                  clear HB hK1 hown hgrow hsr; have HB := HBq; clear HBq
                  refine wpT_take ?_
                  repeat (first | go_big_quiet_step ((fail)) | quiet_step ((fail)))
                  refine wpQuiet_nil ?_
                  refine wpT_step rfl ?_
                  intro K1 hK1
                  go_wp2_with fail
                  have HBq := hide (HB.out.alloc HB.out.size (NodeC (.slice none 0 0) (.slice none 0 0) false (.slice none 0 0)))
                  have HOWq := hide (HOW.out.alloc (NodeC (.slice none 0 0) (.slice none 0 0) false (.slice none 0 0))); clear HOW; have HOW := HOWq; clear HOWq
                  have HOPq := hide (HOP.out.alloc (NodeC (.slice none 0 0) (.slice none 0 0) false (.slice none 0 0))); clear HOP; have HOP := HOPq; clear HOPq
                  have HND := hide (heap_new x4 (NodeC (.slice none 0 0) (.slice none 0 0) false (.slice none 0 0)))
                  have HNS2 := hide (show wr.heap.size ≤ x4.heap.size from HB.out.size)
                  refine hK1.out _ _ (fun _ => pin_mem (HNS.out.below HBq.out)) ?_
                  clear HB hK1; have HB := HBq; clear HBq
                  generalize hb_nb : x4.heap.size = nb at *
                  generalize x4.alloc (NodeC (.slice none 0 0) (.slice none 0 0) false (.slice none 0 0)) = x5 at *
                  clear hb_nb
                  have z0 := cell_heap (j := 0) HND.out rfl
                  have z1 := cell_heap (j := 1) HND.out rfl
                  have z2 := cell_heap (j := 2) HND.out rfl
                  have z3 := cell_heap (j := 3) HND.out rfl
                  have f0 := frozen_heap (j := 0) HND.out
                  have f1 := frozen_heap (j := 1) HND.out
                  have f2 := frozen_heap (j := 2) HND.out
                  have f3 := frozen_heap (j := 3) HND.out
                  refine wpT_step rfl ?_
                  intro K1 hK1
                  go_wp2_with fail
                  refine hK1.out _ _ (fun h => by cases h) ?_
                  clear hK1 z0 z1 z2 z3 f0 f1 f2 f3
                  refine wpT_done ?_
                  (try go_wp2_with fail)
                  go_meet
                  case rel => exact ⟨nb, A1, c1, A2, c2, rfl, HNS2.out, below_four HB.out HNS2.out _ _ _ _, heap_set (j := 3) (heap_set (j := 2) (heap_set (j := 1) (heap_set (j := 0) HND.out))), own_four HOW.out HND.out (by decide) _ _ _ _, own_four HOP.out HND.out (by decide) _ _ _ _⟩
                · refine wpT_step rfl ?_
                  intro K1 hK1
                  go_wp2_with fail
                  have HBq := hide (HB.out.alloc HB.out.size (NodeC (.slice none 0 0) (.slice none 0 0) false (.slice none 0 0)))
                  have HOWq := hide (HOW.out.alloc (NodeC (.slice none 0 0) (.slice none 0 0) false (.slice none 0 0))); clear HOW; have HOW := HOWq; clear HOWq
                  have HOPq := hide (HOP.out.alloc (NodeC (.slice none 0 0) (.slice none 0 0) false (.slice none 0 0))); clear HOP; have HOP := HOPq; clear HOPq
                  have HND := hide (heap_new x3 (NodeC (.slice none 0 0) (.slice none 0 0) false (.slice none 0 0)))
                  have HNS2 := hide (show wr.heap.size ≤ x3.heap.size from HB.out.size)
                  refine hK1.out _ _ (fun _ => pin_mem (HNS.out.below HBq.out)) ?_
                  clear HB hK1; have HB := HBq; clear HBq
                  generalize hb_nb : x3.heap.size = nb at *
                  generalize x3.alloc (NodeC (.slice none 0 0) (.slice none 0 0) false (.slice none 0 0)) = x4 at *
                  clear hb_nb
                  refine wpT_step rfl ?_
                  intro K1 hK1
                  have hsr := HPS.out.below HB.out
                  refine wp_src (.tmp 37) (.tmp 42) 42 rfl wr.heap.size 24 qi _ 2 16 Try.underlying42 qz0 qz qs qb rfl (by decide) _ 0 [] rfl HOP.out Ap r.ps.length cp (posC r.ps) rfl hsr (fun u hu => posC_one hu) ?c63 ?cby HB.out.size ?_
                  case c63 => unfold maxLen; omega
                  case cby => omega
                  intro u4 x5 hown hgrow _
                  simp only [Nat.zero_add, List.nil_append] at hown ⊢
                  have HBq := hide (HB.out.grown hgrow HB.out.size (fun g e => (HOP.out.lt g e).1))
                  have HOWq := hide (own_kept HOW.out hgrow (fun g e => own_types HOP.out HOW.out (by decide) g e)); clear HOW; have HOW := HOWq; clear HOWq
                  have HNDq := hide (heap_grown HND.out hgrow (own_ne_row HOP.out HND.out (by decide))); clear HND; have HND := HNDq; clear HNDq
                  have HOPq := hide hown; clear HOP; have HOP := HOPq; clear HOPq
                  obtain ⟨A2, c2, hu4⟩ := own_slice HOP.out
                  subst hu4
                  refine hK1.out _ _ (fun _ => pin_mem (HNS.out.below HBq.out)) ?_
                  clear HB hK1 hown hgrow hsr; have HB := HBq; clear HBq
                  refine wpT_take ?_
                  repeat (first | go_big_quiet_step ((fail)) | quiet_step ((fail)))
                  refine wpQuiet_nil ?_
                  have z0 := cell_heap (j := 0) HND.out rfl
                  have z1 := cell_heap (j := 1) HND.out rfl
                  have z2 := cell_heap (j := 2) HND.out rfl
                  have z3 := cell_heap (j := 3) HND.out rfl
                  have f0 := frozen_heap (j := 0) HND.out
                  have f1 := frozen_heap (j := 1) HND.out
                  have f2 := frozen_heap (j := 2) HND.out
                  have f3 := frozen_heap (j := 3) HND.out
                  refine wpT_step rfl ?_
                  intro K1 hK1
                  go_wp2_with fail
                  refine hK1.out _ _ (fun h => by cases h) ?_
                  clear hK1 z0 z1 z2 z3 f0 f1 f2 f3
                  refine wpT_done ?_
                  (try go_wp2_with fail)
                  go_meet
                  case rel => exact ⟨nb, A1, c1, A2, c2, rfl, HNS2.out, below_four HB.out HNS2.out _ _ _ _, heap_set (j := 3) (heap_set (j := 2) (heap_set (j := 1) (heap_set (j := 0) HND.out))), own_four HOW.out HND.out (by decide) _ _ _ _, own_four HOP.out HND.out (by decide) _ _ _ _⟩
              · refine wpT_step rfl ?_
                intro K1 hK1
                go_wp2_with fail
                have HBq := hide (HB.out.alloc HB.out.size (NodeC (.slice none 0 0) (.slice none 0 0) false (.slice none 0 0)))
                have HOWq := hide (HOW.out.alloc (NodeC (.slice none 0 0) (.slice none 0 0) false (.slice none 0 0))); clear HOW; have HOW := HOWq; clear HOWq
                have HOPq := hide (HOP.out.alloc (NodeC (.slice none 0 0) (.slice none 0 0) false (.slice none 0 0))); clear HOP; have HOP := HOPq; clear HOPq
                have HND := hide (heap_new x2 (NodeC (.slice none 0 0) (.slice none 0 0) false (.slice none 0 0)))
                have HNS2 := hide (show wr.heap.size ≤ x2.heap.size from HB.out.size)
                refine hK1.out _ _ (fun _ => pin_mem (HNS.out.below HBq.out)) ?_
                clear HB hK1; have HB := HBq; clear HBq
                generalize hb_nb : x2.heap.size = nb at *
                generalize x2.alloc (NodeC (.slice none 0 0) (.slice none 0 0) false (.slice none 0 0)) = x3 at *
                clear hb_nb
                refine wpT_step rfl ?_
                intro K1 hK1
                have hsr := HWS.out.below HB.out
                refine wp_src (.tmp 30) (.tmp 35) 41 rfl wr.heap.size 9 si _ 1 16 Try.underlying41 sz0 sz ss sb2 rfl (by decide) _ 0 [] rfl HOW.out Aw r.ws.length cw (r.ws.map Value.string) rfl hsr (fun u hu => str_one hu) ?c63 ?cby HB.out.size ?_
                case c63 => unfold maxLen; omega
                case cby => omega
                intro u3 x4 hown hgrow _
                simp only [Nat.zero_add, List.nil_append] at hown ⊢
                have HBq := hide (HB.out.grown hgrow HB.out.size (fun g e => (HOW.out.lt g e).1))
                have HOPq := hide (own_kept HOP.out hgrow (fun g e => own_types HOW.out HOP.out (by decide) g e)); clear HOP; have HOP := HOPq; clear HOPq
                have HNDq := hide (heap_grown HND.out hgrow (own_ne_row HOW.out HND.out (by decide))); clear HND; have HND := HNDq; clear HNDq
                have HOWq := hide hown; clear HOW; have HOW := HOWq; clear HOWq
                obtain ⟨A1, c1, hu3⟩ := own_slice HOW.out
                subst hu3
                refine hK1.out _ _ (fun _ => pin_mem (HNS.out.below HBq.out)) ?_
                clear HB hK1 hown hgrow hsr; have HB := HBq; clear HBq
                refine wpT_step rfl ?_
                intro K1 hK1
                have hsr := HPS.out.below HB.out
                refine wp_src (.tmp 37) (.tmp 42) 42 rfl wr.heap.size 24 qi _ 2 16 Try.underlying42 qz0 qz qs qb rfl (by decide) _ 0 [] rfl HOP.out Ap r.ps.length cp (posC r.ps) rfl hsr (fun u hu => posC_one hu) ?c63 ?cby HB.out.size ?_
                case c63 => unfold maxLen; omega
                case cby => omega
                intro u4 x5 hown hgrow _
                simp only [Nat.zero_add, List.nil_append] at hown ⊢
                have HBq := hide (HB.out.grown hgrow HB.out.size (fun g e => (HOP.out.lt g e).1))
                have HOWq := hide (own_kept HOW.out hgrow (fun g e => own_types HOP.out HOW.out (by decide) g e)); clear HOW; have HOW := HOWq; clear HOWq
                have HNDq := hide (heap_grown HND.out hgrow (own_ne_row HOP.out HND.out (by decide))); clear HND; have HND := HNDq; clear HNDq
                have HOPq := hide hown; clear HOP; have HOP := HOPq; clear HOPq
                obtain ⟨A2, c2, hu4⟩ := own_slice HOP.out
                subst hu4
                refine hK1.out _ _ (fun _ => pin_mem (HNS.out.below HBq.out)) ?_
                clear HB hK1 hown hgrow hsr; have HB := HBq; clear HBq
                refine wpT_take ?_
                repeat (first | go_big_quiet_step ((fail)) | quiet_step ((fail)))
                refine wpQuiet_nil ?_
                have z0 := cell_heap (j := 0) HND.out rfl
                have z1 := cell_heap (j := 1) HND.out rfl
                have z2 := cell_heap (j := 2) HND.out rfl
                have z3 := cell_heap (j := 3) HND.out rfl
                have f0 := frozen_heap (j := 0) HND.out
                have f1 := frozen_heap (j := 1) HND.out
                have f2 := frozen_heap (j := 2) HND.out
                have f3 := frozen_heap (j := 3) HND.out
                refine wpT_step rfl ?_
                intro K1 hK1
                go_wp2_with fail
                refine hK1.out _ _ (fun h => by cases h) ?_
                clear hK1 z0 z1 z2 z3 f0 f1 f2 f3
                refine wpT_done ?_
                (try go_wp2_with fail)
                go_meet
                case rel => exact ⟨nb, A1, c1, A2, c2, rfl, HNS2.out, below_four HB.out HNS2.out _ _ _ _, heap_set (j := 3) (heap_set (j := 2) (heap_set (j := 1) (heap_set (j := 0) HND.out))), own_four HOW.out HND.out (by decide) _ _ _ _, own_four HOP.out HND.out (by decide) _ _ _ _⟩
            · refine wpT_step rfl ?_
              intro K1 hK1
              go_wp2_with fail
              have HBq := hide (HB.out.alloc HB.out.size (NodeC (.slice none 0 0) (.slice none 0 0) false (.slice none 0 0)))
              have HOPq := hide (HOP.out.alloc (NodeC (.slice none 0 0) (.slice none 0 0) false (.slice none 0 0))); clear HOP; have HOP := HOPq; clear HOPq
              have HND := hide (heap_new x1 (NodeC (.slice none 0 0) (.slice none 0 0) false (.slice none 0 0)))
              have HNS2 := hide (show wr.heap.size ≤ x1.heap.size from HB.out.size)
              refine hK1.out _ _ (fun _ => pin_mem (HNS.out.below HBq.out)) ?_
              clear HB hK1; have HB := HBq; clear HBq
              generalize hb_nb : x1.heap.size = nb at *
              generalize x1.alloc (NodeC (.slice none 0 0) (.slice none 0 0) false (.slice none 0 0)) = x2 at *
              clear hb_nb
              refine wpT_step rfl ?_
              intro K1 hK1
              go_wp2_with fail
              have HBq := hide (HB.out.alloc HB.out.size (Obj.cells #[] 9))
              have HOPq := hide (HOP.out.alloc (Obj.cells #[] 9)); clear HOP; have HOP := HOPq; clear HOPq
              have HNDq := hide (heap_old (p := (Obj.cells #[] 9)) HND.out); clear HND; have HND := HNDq; clear HNDq
              have HOW := hide (World.ownsRow_made (e := 9) (size := 1) (base := wr.heap.size) x2 #[] 0 HB.out.size (Nat.zero_le _) rfl)
              refine hK1.out _ _ (fun _ => pin_mem (HNS.out.below HBq.out)) ?_
              clear HB hK1; have HB := HBq; clear HBq
              generalize hb_bw : x2.heap.size = bw at *
              generalize x2.alloc (Obj.cells #[] 9) = x3 at *
              clear hb_bw
              refine wpT_step rfl ?_
              intro K1 hK1
              have hsr := HWS.out.below HB.out
              refine wp_src (.tmp 30) (.tmp 35) 41 rfl wr.heap.size 9 si _ 1 16 Try.underlying41 sz0 sz ss sb2 rfl (by decide) _ 0 [] rfl HOW.out Aw r.ws.length cw (r.ws.map Value.string) rfl hsr (fun u hu => str_one hu) ?c63 ?cby HB.out.size ?_
              case c63 => unfold maxLen; omega
              case cby => omega
              intro u3 x4 hown hgrow _
              simp only [Nat.zero_add, List.nil_append] at hown ⊢
              have HBq := hide (HB.out.grown hgrow HB.out.size (fun g e => (HOW.out.lt g e).1))
              have HOPq := hide (own_kept HOP.out hgrow (fun g e => own_types HOW.out HOP.out (by decide) g e)); clear HOP; have HOP := HOPq; clear HOPq
              have HNDq := hide (heap_grown HND.out hgrow (own_ne_row HOW.out HND.out (by decide))); clear HND; have HND := HNDq; clear HNDq
              have HOWq := hide hown; clear HOW; have HOW := HOWq; clear HOWq
              obtain ⟨A1, c1, hu3⟩ := own_slice HOW.out
              subst hu3
              refine hK1.out _ _ (fun _ => pin_mem (HNS.out.below HBq.out)) ?_
              clear HB hK1 hown hgrow hsr; have HB := HBq; clear HBq
              refine wpT_step rfl ?_
              intro K1 hK1
              have hsr := HPS.out.below HB.out
              refine wp_src (.tmp 37) (.tmp 42) 42 rfl wr.heap.size 24 qi _ 2 16 Try.underlying42 qz0 qz qs qb rfl (by decide) _ 0 [] rfl HOP.out Ap r.ps.length cp (posC r.ps) rfl hsr (fun u hu => posC_one hu) ?c63 ?cby HB.out.size ?_
              case c63 => unfold maxLen; omega
              case cby => omega
              intro u4 x5 hown hgrow _
              simp only [Nat.zero_add, List.nil_append] at hown ⊢
              have HBq := hide (HB.out.grown hgrow HB.out.size (fun g e => (HOP.out.lt g e).1))
              have HOWq := hide (own_kept HOW.out hgrow (fun g e => own_types HOP.out HOW.out (by decide) g e)); clear HOW; have HOW := HOWq; clear HOWq
              have HNDq := hide (heap_grown HND.out hgrow (own_ne_row HOP.out HND.out (by decide))); clear HND; have HND := HNDq; clear HNDq
              have HOPq := hide hown; clear HOP; have HOP := HOPq; clear HOPq
              obtain ⟨A2, c2, hu4⟩ := own_slice HOP.out
              subst hu4
              refine hK1.out _ _ (fun _ => pin_mem (HNS.out.below HBq.out)) ?_
              clear HB hK1 hown hgrow hsr; have HB := HBq; clear HBq
              refine wpT_take ?_
              repeat (first | go_big_quiet_step ((fail)) | quiet_step ((fail)))
              refine wpQuiet_nil ?_
              have z0 := cell_heap (j := 0) HND.out rfl
              have z1 := cell_heap (j := 1) HND.out rfl
              have z2 := cell_heap (j := 2) HND.out rfl
              have z3 := cell_heap (j := 3) HND.out rfl
              have f0 := frozen_heap (j := 0) HND.out
              have f1 := frozen_heap (j := 1) HND.out
              have f2 := frozen_heap (j := 2) HND.out
              have f3 := frozen_heap (j := 3) HND.out
              refine wpT_step rfl ?_
              intro K1 hK1
              go_wp2_with fail
              refine hK1.out _ _ (fun h => by cases h) ?_
              clear hK1 z0 z1 z2 z3 f0 f1 f2 f3
              refine wpT_done ?_
              (try go_wp2_with fail)
              go_meet
              case rel => exact ⟨nb, A1, c1, A2, c2, rfl, HNS2.out, below_four HB.out HNS2.out _ _ _ _, heap_set (j := 3) (heap_set (j := 2) (heap_set (j := 1) (heap_set (j := 0) HND.out))), own_four HOW.out HND.out (by decide) _ _ _ _, own_four HOP.out HND.out (by decide) _ _ _ _⟩
          · refine wpT_step rfl ?_
            intro K1 hK1
            go_wp2_with fail
            have HBq := hide (HB.out.alloc HB.out.size (NodeC (.slice none 0 0) (.slice none 0 0) false (.slice none 0 0)))
            have HND := hide (heap_new x0 (NodeC (.slice none 0 0) (.slice none 0 0) false (.slice none 0 0)))
            have HNS2 := hide (show wr.heap.size ≤ x0.heap.size from HB.out.size)
            refine hK1.out _ _ (fun _ => pin_mem (HNS.out.below HBq.out)) ?_
            clear HB hK1; have HB := HBq; clear HBq
            generalize hb_nb : x0.heap.size = nb at *
            generalize x0.alloc (NodeC (.slice none 0 0) (.slice none 0 0) false (.slice none 0 0)) = x1 at *
            clear hb_nb
            refine wpT_fork ?_ ?_
            · refine wpT_step rfl ?_
              intro K1 hK1
              go_wp2_with fail
              have HBq := hide (HB.out.alloc HB.out.size (Obj.cells #[] 9))
              have HNDq := hide (heap_old (p := (Obj.cells #[] 9)) HND.out); clear HND; have HND := HNDq; clear HNDq
              have HOW := hide (World.ownsRow_made (e := 9) (size := 1) (base := wr.heap.size) x1 #[] 0 HB.out.size (Nat.zero_le _) rfl)
              refine hK1.out _ _ (fun _ => pin_mem (HNS.out.below HBq.out)) ?_
              clear HB hK1; have HB := HBq; clear HBq
              generalize hb_bw : x1.heap.size = bw at *
              generalize x1.alloc (Obj.cells #[] 9) = x2 at *
              clear hb_bw
              refine wpT_fork ?_ ?_
              · refine wpT_step rfl ?_
                intro K1 hK1
                have hsr := HWS.out.below HB.out
                refine wp_src (.tmp 30) (.tmp 35) 41 rfl wr.heap.size 9 si _ 1 16 Try.underlying41 sz0 sz ss sb2 rfl (by decide) _ 0 [] rfl HOW.out Aw r.ws.length cw (r.ws.map Value.string) rfl hsr (fun u hu => str_one hu) ?c63 ?cby HB.out.size ?_
                case c63 => unfold maxLen; omega
                case cby => omega
                intro u2 x3 hown hgrow _
                simp only [Nat.zero_add, List.nil_append] at hown ⊢
                have HBq := hide (HB.out.grown hgrow HB.out.size (fun g e => (HOW.out.lt g e).1))
                have HNDq := hide (heap_grown HND.out hgrow (own_ne_row HOW.out HND.out (by decide))); clear HND; have HND := HNDq; clear HNDq
                have HOWq := hide hown; clear HOW; have HOW := HOWq; clear HOWq
                obtain ⟨A1, c1, hu2⟩ := own_slice HOW.out
                subst hu2
                refine hK1.out _ _ (fun _ => pin_mem (HNS.out.below HBq.out)) ?_
                clear HB hK1 hown hgrow hsr; have HB := HBq; clear HBq
                refine wpT_step rfl ?_
                intro K1 hK1
                go_wp2_with fail
                have HBq := hide (HB.out.alloc HB.out.size (Obj.cells #[] 24))
                have HOWq := hide (HOW.out.alloc (Obj.cells #[] 24)); clear HOW; have HOW := HOWq; clear HOWq
                have HNDq := hide (heap_old (p := (Obj.cells #[] 24)) HND.out); clear HND; have HND := HNDq; clear HNDq
                have HOP := hide (World.ownsRow_made (e := 24) (size := 2) (base := wr.heap.size) x3 #[] 0 HB.out.size (Nat.zero_le _) rfl)
                refine hK1.out _ _ (fun _ => pin_mem (HNS.out.below HBq.out)) ?_
                clear HB hK1; have HB := HBq; clear HBq
                generalize hb_bp : x3.heap.size = bp at *
                generalize x3.alloc (Obj.cells #[] 24) = x4 at *
                clear hb_bp
                refine wpT_step rfl ?_
                intro K1 hK1
                have hsr := HPS.out.below HB.out
                refine wp_src (.tmp 37) (.tmp 42) 42 rfl wr.heap.size 24 qi _ 2 16 Try.underlying42 qz0 qz qs qb rfl (by decide) _ 0 [] rfl HOP.out Ap r.ps.length cp (posC r.ps) rfl hsr (fun u hu => posC_one hu) ?c63 ?cby HB.out.size ?_
                case c63 => unfold maxLen; omega
                case cby => omega
                intro u4 x5 hown hgrow _
                simp only [Nat.zero_add, List.nil_append] at hown ⊢
                have HBq := hide (HB.out.grown hgrow HB.out.size (fun g e => (HOP.out.lt g e).1))
                have HOWq := hide (own_kept HOW.out hgrow (fun g e => own_types HOP.out HOW.out (by decide) g e)); clear HOW; have HOW := HOWq; clear HOWq
                have HNDq := hide (heap_grown HND.out hgrow (own_ne_row HOP.out HND.out (by decide))); clear HND; have HND := HNDq; clear HNDq
                have HOPq := hide hown; clear HOP; have HOP := HOPq; clear HOPq
                obtain ⟨A2, c2, hu4⟩ := own_slice HOP.out
                subst hu4
                refine hK1.out _ _ (fun _ => pin_mem (HNS.out.below HBq.out)) ?_
                clear HB hK1 hown hgrow hsr; have HB := HBq; clear HBq
                refine wpT_take ?_
                repeat (first | go_big_quiet_step ((fail)) | quiet_step ((fail)))
                refine wpQuiet_nil ?_
                have z0 := cell_heap (j := 0) HND.out rfl
                have z1 := cell_heap (j := 1) HND.out rfl
                have z2 := cell_heap (j := 2) HND.out rfl
                have z3 := cell_heap (j := 3) HND.out rfl
                have f0 := frozen_heap (j := 0) HND.out
                have f1 := frozen_heap (j := 1) HND.out
                have f2 := frozen_heap (j := 2) HND.out
                have f3 := frozen_heap (j := 3) HND.out
                refine wpT_step rfl ?_
                intro K1 hK1
                go_wp2_with fail
                refine hK1.out _ _ (fun h => by cases h) ?_
                clear hK1 z0 z1 z2 z3 f0 f1 f2 f3
                refine wpT_done ?_
                (try go_wp2_with fail)
                go_meet
                case rel => exact ⟨nb, A1, c1, A2, c2, rfl, HNS2.out, below_four HB.out HNS2.out _ _ _ _, heap_set (j := 3) (heap_set (j := 2) (heap_set (j := 1) (heap_set (j := 0) HND.out))), own_four HOW.out HND.out (by decide) _ _ _ _, own_four HOP.out HND.out (by decide) _ _ _ _⟩
              · refine wpT_step rfl ?_
                intro K1 hK1
                go_wp2_with fail
                have HBq := hide (HB.out.alloc HB.out.size (Obj.cells #[] 24))
                have HOWq := hide (HOW.out.alloc (Obj.cells #[] 24)); clear HOW; have HOW := HOWq; clear HOWq
                have HNDq := hide (heap_old (p := (Obj.cells #[] 24)) HND.out); clear HND; have HND := HNDq; clear HNDq
                have HOP := hide (World.ownsRow_made (e := 24) (size := 2) (base := wr.heap.size) x2 #[] 0 HB.out.size (Nat.zero_le _) rfl)
                refine hK1.out _ _ (fun _ => pin_mem (HNS.out.below HBq.out)) ?_
                clear HB hK1; have HB := HBq; clear HBq
                generalize hb_bp : x2.heap.size = bp at *
                generalize x2.alloc (Obj.cells #[] 24) = x3 at *
                clear hb_bp
                refine wpT_step rfl ?_
                intro K1 hK1
                have hsr := HWS.out.below HB.out
                refine wp_src (.tmp 30) (.tmp 35) 41 rfl wr.heap.size 9 si _ 1 16 Try.underlying41 sz0 sz ss sb2 rfl (by decide) _ 0 [] rfl HOW.out Aw r.ws.length cw (r.ws.map Value.string) rfl hsr (fun u hu => str_one hu) ?c63 ?cby HB.out.size ?_
                case c63 => unfold maxLen; omega
                case cby => omega
                intro u3 x4 hown hgrow _
                simp only [Nat.zero_add, List.nil_append] at hown ⊢
                have HBq := hide (HB.out.grown hgrow HB.out.size (fun g e => (HOW.out.lt g e).1))
                have HOPq := hide (own_kept HOP.out hgrow (fun g e => own_types HOW.out HOP.out (by decide) g e)); clear HOP; have HOP := HOPq; clear HOPq
                have HNDq := hide (heap_grown HND.out hgrow (own_ne_row HOW.out HND.out (by decide))); clear HND; have HND := HNDq; clear HNDq
                have HOWq := hide hown; clear HOW; have HOW := HOWq; clear HOWq
                obtain ⟨A1, c1, hu3⟩ := own_slice HOW.out
                subst hu3
                refine hK1.out _ _ (fun _ => pin_mem (HNS.out.below HBq.out)) ?_
                clear HB hK1 hown hgrow hsr; have HB := HBq; clear HBq
                refine wpT_step rfl ?_
                intro K1 hK1
                have hsr := HPS.out.below HB.out
                refine wp_src (.tmp 37) (.tmp 42) 42 rfl wr.heap.size 24 qi _ 2 16 Try.underlying42 qz0 qz qs qb rfl (by decide) _ 0 [] rfl HOP.out Ap r.ps.length cp (posC r.ps) rfl hsr (fun u hu => posC_one hu) ?c63 ?cby HB.out.size ?_
                case c63 => unfold maxLen; omega
                case cby => omega
                intro u4 x5 hown hgrow _
                simp only [Nat.zero_add, List.nil_append] at hown ⊢
                have HBq := hide (HB.out.grown hgrow HB.out.size (fun g e => (HOP.out.lt g e).1))
                have HOWq := hide (own_kept HOW.out hgrow (fun g e => own_types HOP.out HOW.out (by decide) g e)); clear HOW; have HOW := HOWq; clear HOWq
                have HNDq := hide (heap_grown HND.out hgrow (own_ne_row HOP.out HND.out (by decide))); clear HND; have HND := HNDq; clear HNDq
                have HOPq := hide hown; clear HOP; have HOP := HOPq; clear HOPq
                obtain ⟨A2, c2, hu4⟩ := own_slice HOP.out
                subst hu4
                refine hK1.out _ _ (fun _ => pin_mem (HNS.out.below HBq.out)) ?_
                clear HB hK1 hown hgrow hsr; have HB := HBq; clear HBq
                refine wpT_take ?_
                repeat (first | go_big_quiet_step ((fail)) | quiet_step ((fail)))
                refine wpQuiet_nil ?_
                have z0 := cell_heap (j := 0) HND.out rfl
                have z1 := cell_heap (j := 1) HND.out rfl
                have z2 := cell_heap (j := 2) HND.out rfl
                have z3 := cell_heap (j := 3) HND.out rfl
                have f0 := frozen_heap (j := 0) HND.out
                have f1 := frozen_heap (j := 1) HND.out
                have f2 := frozen_heap (j := 2) HND.out
                have f3 := frozen_heap (j := 3) HND.out
                refine wpT_step rfl ?_
                intro K1 hK1
                go_wp2_with fail
                refine hK1.out _ _ (fun h => by cases h) ?_
                clear hK1 z0 z1 z2 z3 f0 f1 f2 f3
                refine wpT_done ?_
                (try go_wp2_with fail)
                go_meet
                case rel => exact ⟨nb, A1, c1, A2, c2, rfl, HNS2.out, below_four HB.out HNS2.out _ _ _ _, heap_set (j := 3) (heap_set (j := 2) (heap_set (j := 1) (heap_set (j := 0) HND.out))), own_four HOW.out HND.out (by decide) _ _ _ _, own_four HOP.out HND.out (by decide) _ _ _ _⟩
            · refine wpT_step rfl ?_
              intro K1 hK1
              go_wp2_with fail
              have HBq := hide (HB.out.alloc HB.out.size (Obj.cells #[] 24))
              have HNDq := hide (heap_old (p := (Obj.cells #[] 24)) HND.out); clear HND; have HND := HNDq; clear HNDq
              have HOP := hide (World.ownsRow_made (e := 24) (size := 2) (base := wr.heap.size) x1 #[] 0 HB.out.size (Nat.zero_le _) rfl)
              refine hK1.out _ _ (fun _ => pin_mem (HNS.out.below HBq.out)) ?_
              clear HB hK1; have HB := HBq; clear HBq
              generalize hb_bp : x1.heap.size = bp at *
              generalize x1.alloc (Obj.cells #[] 24) = x2 at *
              clear hb_bp
              refine wpT_step rfl ?_
              intro K1 hK1
              go_wp2_with fail
              have HBq := hide (HB.out.alloc HB.out.size (Obj.cells #[] 9))
              have HOPq := hide (HOP.out.alloc (Obj.cells #[] 9)); clear HOP; have HOP := HOPq; clear HOPq
              have HNDq := hide (heap_old (p := (Obj.cells #[] 9)) HND.out); clear HND; have HND := HNDq; clear HNDq
              have HOW := hide (World.ownsRow_made (e := 9) (size := 1) (base := wr.heap.size) x2 #[] 0 HB.out.size (Nat.zero_le _) rfl)
              refine hK1.out _ _ (fun _ => pin_mem (HNS.out.below HBq.out)) ?_
              clear HB hK1; have HB := HBq; clear HBq
              generalize hb_bw : x2.heap.size = bw at *
              generalize x2.alloc (Obj.cells #[] 9) = x3 at *
              clear hb_bw
              refine wpT_step rfl ?_
              intro K1 hK1
              have hsr := HWS.out.below HB.out
              refine wp_src (.tmp 30) (.tmp 35) 41 rfl wr.heap.size 9 si _ 1 16 Try.underlying41 sz0 sz ss sb2 rfl (by decide) _ 0 [] rfl HOW.out Aw r.ws.length cw (r.ws.map Value.string) rfl hsr (fun u hu => str_one hu) ?c63 ?cby HB.out.size ?_
              case c63 => unfold maxLen; omega
              case cby => omega
              intro u3 x4 hown hgrow _
              simp only [Nat.zero_add, List.nil_append] at hown ⊢
              have HBq := hide (HB.out.grown hgrow HB.out.size (fun g e => (HOW.out.lt g e).1))
              have HOPq := hide (own_kept HOP.out hgrow (fun g e => own_types HOW.out HOP.out (by decide) g e)); clear HOP; have HOP := HOPq; clear HOPq
              have HNDq := hide (heap_grown HND.out hgrow (own_ne_row HOW.out HND.out (by decide))); clear HND; have HND := HNDq; clear HNDq
              have HOWq := hide hown; clear HOW; have HOW := HOWq; clear HOWq
              obtain ⟨A1, c1, hu3⟩ := own_slice HOW.out
              subst hu3
              refine hK1.out _ _ (fun _ => pin_mem (HNS.out.below HBq.out)) ?_
              clear HB hK1 hown hgrow hsr; have HB := HBq; clear HBq
              refine wpT_step rfl ?_
              intro K1 hK1
              have hsr := HPS.out.below HB.out
              refine wp_src (.tmp 37) (.tmp 42) 42 rfl wr.heap.size 24 qi _ 2 16 Try.underlying42 qz0 qz qs qb rfl (by decide) _ 0 [] rfl HOP.out Ap r.ps.length cp (posC r.ps) rfl hsr (fun u hu => posC_one hu) ?c63 ?cby HB.out.size ?_
              case c63 => unfold maxLen; omega
              case cby => omega
              intro u4 x5 hown hgrow _
              simp only [Nat.zero_add, List.nil_append] at hown ⊢
              have HBq := hide (HB.out.grown hgrow HB.out.size (fun g e => (HOP.out.lt g e).1))
              have HOWq := hide (own_kept HOW.out hgrow (fun g e => own_types HOP.out HOW.out (by decide) g e)); clear HOW; have HOW := HOWq; clear HOWq
              have HNDq := hide (heap_grown HND.out hgrow (own_ne_row HOP.out HND.out (by decide))); clear HND; have HND := HNDq; clear HNDq
              have HOPq := hide hown; clear HOP; have HOP := HOPq; clear HOPq
              obtain ⟨A2, c2, hu4⟩ := own_slice HOP.out
              subst hu4
              refine hK1.out _ _ (fun _ => pin_mem (HNS.out.below HBq.out)) ?_
              clear HB hK1 hown hgrow hsr; have HB := HBq; clear HBq
              refine wpT_take ?_
              repeat (first | go_big_quiet_step ((fail)) | quiet_step ((fail)))
              refine wpQuiet_nil ?_
              have z0 := cell_heap (j := 0) HND.out rfl
              have z1 := cell_heap (j := 1) HND.out rfl
              have z2 := cell_heap (j := 2) HND.out rfl
              have z3 := cell_heap (j := 3) HND.out rfl
              have f0 := frozen_heap (j := 0) HND.out
              have f1 := frozen_heap (j := 1) HND.out
              have f2 := frozen_heap (j := 2) HND.out
              have f3 := frozen_heap (j := 3) HND.out
              refine wpT_step rfl ?_
              intro K1 hK1
              go_wp2_with fail
              refine hK1.out _ _ (fun h => by cases h) ?_
              clear hK1 z0 z1 z2 z3 f0 f1 f2 f3
              refine wpT_done ?_
              (try go_wp2_with fail)
              go_meet
              case rel => exact ⟨nb, A1, c1, A2, c2, rfl, HNS2.out, below_four HB.out HNS2.out _ _ _ _, heap_set (j := 3) (heap_set (j := 2) (heap_set (j := 1) (heap_set (j := 0) HND.out))), own_four HOW.out HND.out (by decide) _ _ _ _, own_four HOP.out HND.out (by decide) _ _ _ _⟩
        case rest =>
          obtain ⟨nb, A1, c1, A2, c2, rfl, hnb, hbl, hnd, how, hop⟩ := hcut
          have HNS := hide (HNSw.out.below hbl)
          have HOW := hide how
          have HOP := hide hop
          have HBL := hide hbl
          have HND := hide hnd
          have HNB := hide hnb
          clear hnb hbl hnd how hop HNSw
          have q3 := HNS.out.c3
          go_upto_if 54 with fail
          go_cut [] (fun wx => ∃ (Ak : Option Addr) (ck : Nat) (K : Fo) (yk : List Value) (BK : Nat → Prop), wx.heap[nb]? = some (NodeC (.slice A1 r.ws.length c1) (.slice A2 r.ps.length c2) r.op (.slice Ak K.len ck)) ∧ Below wr.heap.size wr wx ∧ wx.ownsRow wr.heap.size 9 1 (.slice A1 r.ws.length c1) r.ws.length (r.ws.map Value.string) ∧ wx.ownsRow wr.heap.size 24 2 (.slice A2 r.ps.length c2) r.ps.length (posC r.ps) ∧ LoS wr wx (.slice Ak K.len ck) K yk BK ∧ K = (if r.op = true then nodesF (inR d (L.drop (i + 1))).length (d + 1) (inR d (L.drop (i + 1))) else .nil) ∧ K.len ≤ L.length)
          case first =>
            cases hrop : r.op with
            | false =>
              have hh : (if r.op = true then nodesF (inR d (L.drop (i + 1))).length (d + 1) (inR d (L.drop (i + 1))) else .nil) = Fo.nil := by rw [hrop]; rfl
              have HH := hide hh
              have HND2 := hide HND.out
              rw [hrop] at q3 hh
              clear hh
              go_wp2_with fail
              go_meet
              case rel => exact ⟨none, 0, .nil, [], _, by rw [hrop]; have := HND2.out; rw [hrop] at this; exact this, HBL.out, HOW.out, HOP.out, los_nil wr _, HH.out.symm, Nat.zero_le _⟩
            | true =>
              have HROP := hide hrop
              have hinl := inR_len HIN.out hkl
              have hmm : (inR d (L.drop (i + 1))).length < n := by rw [hinl]; have := HN.out; omega
              have hRV : RwV wc D (inR d (L.drop (i + 1))) ((xs.drop ((i + 1) * 4)).take ((k - (i + 1)) * 4)) := by
                rw [HIN.out]
                exact ((HV.out.keep (fun q hq => (below_lo HX.out.bl HBL.out HX.out.bl.size).block q (HD.out q hq))).drop (i + 1)).take (k - (i + 1))
              have hREC : ∀ (A' : Option Addr) (c' : Nat), Src wc A' (inR d (L.drop (i + 1))).length c' 4 ((xs.drop ((i + 1) * 4)).take ((k - (i + 1)) * 4)) → (∀ a, A' = some a → a.block = ab) → (inR d (L.drop (i + 1))).length ≤ c' → c' ≤ maxLen → Calls Try.prog 21 #[.slice A' (k - (i + 1)) c', .int .i64 ((d : Int) + 1)] wc (NodesOut (nodesF (inR d (L.drop (i + 1))).length (d + 1) (inR d (L.drop (i + 1)))) wc) := by
                intro A' c' h1 h2 h3 h4
                have h5 := HIH.out _ hmm (inR d (L.drop (i + 1))) rfl (d + 1) A' c' _ D wc h1 hRV (fun q hq => Nat.lt_of_lt_of_le (HD.out q hq) (Nat.le_trans HX.out.bl.size HBL.out.size)) (fun a ha => by rw [h2 a ha]; exact Nat.lt_of_lt_of_le hadB (Nat.le_trans HX.out.bl.size HBL.out.size)) h3 h4 (by rw [hinl]; omega) (fun q hq => HW.out q (by rw [HIN.out] at hq; exact List.mem_of_mem_drop (List.mem_of_mem_take hq))) (by rw [hinl]; omega)
                rw [hinl] at h5 ⊢
                exact h5
              have hsl : ((xs.drop ((i + 1) * 4)).take ((k - (i + 1)) * 4)).length = (inR d (L.drop (i + 1))).length * 4 := by rw [← hRV.len]
              have HRC := hide hREC
              have HSL := hide hsl
              have HINL := hide hinl
              have HHQ := hide (show (if r.op = true then nodesF (inR d (L.drop (i + 1))).length (d + 1) (inR d (L.drop (i + 1))) else .nil) = nodesF (inR d (L.drop (i + 1))).length (d + 1) (inR d (L.drop (i + 1))) from by rw [hrop, if_pos rfl])
              have hndl : ∀ F : Fo, F = nodesF (inR d (L.drop (i + 1))).length (d + 1) (inR d (L.drop (i + 1))) → F.len ≤ L.length := fun F hF => by rw [hF]; exact Nat.le_trans (nodesF_len _ _ _) (by rw [hinl]; omega)
              have HNDL := hide hndl
              rw [hrop] at q3
              have s1 : ((i : Int) + 1 ≤ (k : Int)) := by omega
              have s2 : ((k : Int) ≤ (c : Int)) := by omega
              have s3 : ((0 : Int) ≤ (i : Int) + 1) := by omega
              have hcells : ∀ j u, ((xs.drop ((i + 1) * 4)).take ((k - (i + 1)) * 4))[j]? = some u → wc.cell? ⟨ab, ao + (i + 1) * 4 + j, none⟩ = some u := fun j u hj => by
                rw [List.getElem?_take] at hj
                split at hj
                · rw [List.getElem?_drop] at hj
                  have := cell_block (a := ⟨ab, ao + ((i + 1) * 4 + j), none⟩) (HBL.out.block ab (Nat.lt_of_lt_of_le hadB HX.out.bl.size))
                  rw [Nat.add_assoc, this]
                  exact HSC.out _ _ hj
                · cases hj
              have HCE := hide hcells
              have HCM := hide (And.intro hlc hcm)
              clear hcells hRV hREC hsl hinl hndl hmm hrop
              go_wp2_with fail
              · refine (HRC.out _ _ ⟨HSL.out, .inr ⟨_, rfl, fun j u hu => by have h1 := (List.getElem?_eq_some_iff.1 hu).1; rw [HSL.out, HINL.out] at h1; omega⟩⟩ (fun a ha => by cases ha; rfl) (by rw [HINL.out]; omega) (by simp [maxLen])).mono ?_
                rintro e w5 ⟨hb5, vk, yk, BK, rfl, hk⟩
                obtain ⟨Ak, ck, rfl⟩ := own_slice hk.own
                have hnd5 := heapB hb5 HND.out
                have f3 := frozen_heap (j := 3) hnd5
                have m3 := cell_heap (j := 3) hnd5 rfl
                have hst : Only nb w5 (w5.setCell ⟨nb, 3, none⟩ (.slice Ak (nodesF (inR d (L.drop (i + 1))).length (d + 1) (inR d (L.drop (i + 1)))).len ck)) := only_set (only_refl nb w5) 3 _
                have HR := hide (show _ ∧ _ ∧ _ ∧ _ ∧ _ from And.intro (heap_set (j := 3) (u := .slice Ak (nodesF (inR d (L.drop (i + 1))).length (d + 1) (inR d (L.drop (i + 1)))).len ck) hnd5) (And.intro ((below_lo HBL.out hb5 HBL.out.size).setCell (p := ⟨nb, 3, none⟩) HNB.out (.slice Ak (nodesF (inR d (L.drop (i + 1))).length (d + 1) (inR d (L.drop (i + 1)))).len ck)) (And.intro (own_kept (own_below HOW.out hb5) hst (fun g e => by cases e; exact own_ne_row (own_below HOW.out hb5) hnd5 (by decide))) (And.intro (own_kept (own_below HOP.out hb5) hst (fun g e => by cases e; exact own_ne_row (own_below HOP.out hb5) hnd5 (by decide))) ((hk.grow hst (fun b e => by cases e; exact lt_heap HND.out)).base HBL.out.size)))))
                have HNDL2 := hide (HNDL.out _ rfl)
                clear hnd5 hst hk hb5 HRC HSL HCE
                generalize hKK : nodesF (inR d (L.drop (i + 1))).length (d + 1) (inR d (L.drop (i + 1))) = KK at *
                have HKK := hide hKK
                clear hKK
                go_wp2_with fail
                rw [← h]
                go_meet
                case rel => exact ⟨Ak, ck, KK, yk, BK, HR.out.1, HR.out.2.1, HR.out.2.2.1, HR.out.2.2.2.1, HR.out.2.2.2.2, HHQ.out.symm, HNDL2.out⟩
              · refine (HRC.out _ _ ⟨HSL.out, .inr ⟨_, rfl, fun j u hu => by rw [Addr.add_lit]; exact HCE.out j u hu⟩⟩ (fun a ha => by cases ha; rfl) (by rw [HINL.out]; omega) (by omega)).mono ?_
                rintro e w5 ⟨hb5, vk, yk, BK, rfl, hk⟩
                obtain ⟨Ak, ck, rfl⟩ := own_slice hk.own
                have hnd5 := heapB hb5 HND.out
                have f3 := frozen_heap (j := 3) hnd5
                have m3 := cell_heap (j := 3) hnd5 rfl
                have hst : Only nb w5 (w5.setCell ⟨nb, 3, none⟩ (.slice Ak (nodesF (inR d (L.drop (i + 1))).length (d + 1) (inR d (L.drop (i + 1)))).len ck)) := only_set (only_refl nb w5) 3 _
                have HR := hide (show _ ∧ _ ∧ _ ∧ _ ∧ _ from And.intro (heap_set (j := 3) (u := .slice Ak (nodesF (inR d (L.drop (i + 1))).length (d + 1) (inR d (L.drop (i + 1)))).len ck) hnd5) (And.intro ((below_lo HBL.out hb5 HBL.out.size).setCell (p := ⟨nb, 3, none⟩) HNB.out (.slice Ak (nodesF (inR d (L.drop (i + 1))).length (d + 1) (inR d (L.drop (i + 1)))).len ck)) (And.intro (own_kept (own_below HOW.out hb5) hst (fun g e => by cases e; exact own_ne_row (own_below HOW.out hb5) hnd5 (by decide))) (And.intro (own_kept (own_below HOP.out hb5) hst (fun g e => by cases e; exact own_ne_row (own_below HOP.out hb5) hnd5 (by decide))) ((hk.grow hst (fun b e => by cases e; exact lt_heap HND.out)).base HBL.out.size)))))
                have HNDL2 := hide (HNDL.out _ rfl)
                clear hnd5 hst hk hb5 HRC HSL HCE
                generalize hKK : nodesF (inR d (L.drop (i + 1))).length (d + 1) (inR d (L.drop (i + 1))) = KK at *
                have HKK := hide hKK
                clear hKK
                go_wp2_with fail
                go_meet
                case rel => exact ⟨Ak, ck, KK, yk, BK, HR.out.1, HR.out.2.1, HR.out.2.2.1, HR.out.2.2.2.1, HR.out.2.2.2.2, HHQ.out.symm, HNDL2.out⟩
          case rest =>
            obtain ⟨Ak, ck, K, yk, BK, hnd, hbl, how, hop, hlk, hKK, hkl2⟩ := hcut
            have HKK := hide hKK
            have n0 := cell_heap (j := 0) hnd rfl
            have n1 := cell_heap (j := 1) hnd rfl
            have n2 := cell_heap (j := 2) hnd rfl
            have n3 := cell_heap (j := 3) hnd rfl
            have hlo := HX.out.lo.grow (grown_of_below hbl) (fun b e => by cases e)
            have HLO := hide (hlo.grow (grown_of_below (bel_one wc (NodeC (.slice A1 r.ws.length c1) (.slice A2 r.ps.length c2) r.op (.slice Ak K.len ck)))) (fun b e => by cases e))
            have HON := hide (los_one r.op hbl.size how hop hlk)
            have HBL2 := hide (below_lo (below_lo HX.out.bl hbl HX.out.bl.size) (bel_one wc (NodeC (.slice A1 r.ws.length c1) (.slice A2 r.ps.length c2) r.op (.slice Ak K.len ck))) (Nat.le_trans HX.out.bl.size hbl.size))
            clear hnd hbl how hop hlk hKK hlo HND HBL HOW HOP HNS q3
            go_wp2_with (at_builtin; go_must (refine wpList_append_own_at _ rfl (.tmp 64) (.tmp 66) 36 rfl w.heap.size 44 ni _ 4 80 Try.underlying36 nz0 nz nss nb0 rfl (by decide) _ _ _ rfl HLO.out.own ⟨wc.heap.size, 0, none⟩ 1 1 [.slice A1 r.ws.length c1, .slice A2 r.ps.length c2, .bool r.op, .slice Ak K.len ck] rfl rfl (row_at (heap_new wc (NodeC (.slice A1 r.ws.length c1) (.slice A2 r.ps.length c2) r.op (.slice Ak K.len ck)))) ?ones ?c63 ?cby ?cbase ?_))
            case ones => simp [Value.oneCell']
            case c63 => unfold maxLen; omega
            case cby => omega
            case cbase => have := HBL2.out.size; rwa [World.size_alloc] at this
            intro v8 w8 hown hgr _ hk8
            have hap := LoS.app HLO.out HON.out (fun g e => (HX.out.lo.own.lt g e).2) HX.out.bl.size hown hgr (by rw [World.size_alloc]; exact hk8)
            have HNL := hide (show NL w w8 n L d k v8 (Fd.app (.cons r.ws r.ps r.op K .nil)) _ _ from ⟨HBL2.out.grown hgr HBL2.out.size (fun g e => (HX.out.lo.own.lt g e).1), hap, by
              have h1 := HX.out.eq
              rw [HDR.out] at h1
              rw [app_cons, ← h1]
              obtain ⟨m, rfl⟩ : ∃ m, n = m + 1 := ⟨n - 1, by have := HN.out; omega⟩
              have hln := HN.out
              have hi1 := inR_len HIN.out hkl
              have e1 : nodesF m (d + 1) (inR d (L.drop (i + 1))) = nodesF (inR d (L.drop (i + 1))).length (d + 1) (inR d (L.drop (i + 1))) := nodes_fuel _ _ _ _ (by rw [hi1]; omega) (Nat.le_refl _)
              have e2 : nodesF m d (L.drop k) = nodesF (m + 1) d (L.drop k) := nodes_fuel _ _ _ _ (by rw [List.length_drop]; omega) (by rw [List.length_drop]; omega)
              rw [nodesF, HOUT.out, e1, ← HKK.out, e2], hkl, by rw [Fo.len_app]; simp only [Fo.len]; omega⟩)
            clear hown hgr hk8 hap HLO HON HBL2 n0 n1 n2 n3
            go_wp2_with fail
            go_roundw
            case rel => exact ⟨k, _, _, _, rfl, HNL.out⟩
            case measure => simp [intOf]; omega
    · have d1 : decide (i < L.length) = false := decide_eq_false (by omega)
      have d1' : decide ((i : Int) < (L.length : Int)) = false := decide_eq_false (by omega)
      have HEQ := hide (show Fd = nodesF n d L from by
        have := HX.out.eq
        rw [List.drop_eq_nil_of_le hge, show nodesF n d [] = .nil from by cases n <;> rfl, Fo.app_nil] at this
        exact this)
      clear hge
      go_wp2_with fail
      go_ret
      exact ⟨HX.out.bl, _, ys, B, rfl, by rw [← HEQ.out]; exact HX.out.lo⟩
end Go.Proofs.Ytihmmmodimionaa.Tr
