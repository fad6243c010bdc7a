/- What the claim leans on, part 5 of 16: TE TN TU TV. -/
import Derived.Deep.CutBlock
import Derived.Deep.DeepCutAuto
import Derived.Test.YtihmmmodimionaaWr01
import Derived.Test.YtihmmmodimionaaWr02
import Derived.Test.YtihmmmodimionaaWr03
import Derived.Test.YtihmmmodimionaaWr04
/- The reader of statements: statement, by what list does (its drawn region printed by gen_te.py). -/
namespace Go.Proofs.Ytihmmmodimionaa.Tr
open Go.RowKit Go.Proofs.Ytihmmmodimionaa Go.Proofs.Ytihmmmodimionaa.Lx

set_option maxHeartbeats 8000000 in
set_option maxRecDepth 100000 in
theorem stmt_walk (p g : Nat) (HL : Hid (∀ (deep : Nat) (op : Pl) (A : Option Addr) (cap : Nat) (ts : List BTok) (w : World), RdX w p A cap ts 0 0 0 → deep ≤ 32 → ts.length < g → ts.length ≤ 100000 → Calls Try.prog 35 #[.pointer (some ⟨p, 0, none⟩), .int .i64 deep, .agg #[.int .i64 op.1, .int .i64 op.2]] w (ListOut 200000 p w (listF g deep op ts)))) (deep : Nat) (A : Option Addr) (cap : Nat) (t : BTok) (ts : List BTok) (w : World) (hd : deep ≤ 32) (hk : t.k = 1) (hl : ts.length + 1 ≤ 100000) (hg : ts.length < g) (h : RdX w p A cap (t :: ts) 0 0 0) :
    Calls Try.prog 63 #[.pointer (some ⟨p, 0, none⟩), .int .i64 deep] w (ListOut 1 p w (stmtF (fun o r => listF g (deep + 1) o r) deep t.pos (t :: ts))) := by
  have hp := lt_heap h.h
  obtain ⟨si, sz0, sz, ss, sb⟩ := info_parts infoS
  obtain ⟨qi, qz0, qz, qs, qb⟩ := info_parts infoP
  obtain ⟨ni, nz0, nz, ns, nb⟩ := info_parts infoN
  obtain ⟨ad, rfl, q0, q1, q2, q3⟩ := h.t.head
  have hsp : ad.spot = none := World.cell?_spot q0
  obtain ⟨bk, of, sp⟩ := ad
  cases hsp
  have r0 := cell_heap (j := 0) h.h rfl
  have d0 : ((0 : Int) < ((ts.length + 1 : Nat) : Int)) := by omega
  have d2 : ((0 : Int) < (ts.length : Int) + 1) := by omega
  rw [List.length_cons] at r0
  have HH := hide (h.below (bel_one w (.cells #[.int .i64 t.l, .int .i64 t.c] 24)))
  have H5 := hide (heap_new w (.cells #[.int .i64 t.l, .int .i64 t.c] 24))
  clear h
  go_enter Try.func63, Try.ntmps63
  go_wp2_with fail
  generalize hw1 : w.alloc (.cells #[.int .i64 t.l, .int .i64 t.c] 24) = w1 at *
  have HWD := hide (words_any p (some ⟨bk, of, none⟩) cap (t :: ts) w1 HH.out (by simp; omega) HH.out.cm)
  refine HWD.out.mono ?_
  intro e w2 hh
  obtain ⟨A2, cap2, vw, vp, rfl, hW⟩ := hh
  have HW := hide hW
  obtain ⟨Aw, cw, rfl⟩ := own_slice hW.ow
  obtain ⟨Ap, cp, rfl⟩ := own_slice hW.op
  have HSB := hide (show SB p w (w2.alloc (NodeC (.slice Aw (wordsT (t :: ts)).length cw) (.slice Ap (wordsT (t :: ts)).length cp) false (.slice none 0 0))) w.heap.size w2.heap.size t.pos (wordsT (t :: ts)) (.slice Aw (wordsT (t :: ts)).length cw) (.slice Ap (wordsT (t :: ts)).length cp) (.slice none 0 0) .nil [] (fun _ => False) A2 cap2 (behindT (t :: ts)) from by
    have hs1 : w1.heap.size = w.heap.size + 1 := by rw [← hw1]; simp
    have ho1 : Only p w w1 := by rw [← hw1]; exact only_alloc (only_refl p w) _
    have ho2 := only_trans ho1 hW.o
    refine ⟨only_alloc ho2 _, Nat.le_refl _, ho2.size, heap_old (only_heap hW.o H5.out (by omega)), heap_new w2 _, own_base (hW.ow.alloc _) (by omega), own_base (hW.op.alloc _) (by omega), los_nil _ _, hW.r.below (bel_one w2 _)⟩)
  clear hW HWD
  go_wp2_with fail
  generalize hw3 : w2.alloc (NodeC (.slice Aw (wordsT (t :: ts)).length cw) (.slice Ap (wordsT (t :: ts)).length cp) false (.slice none 0 0)) = w3 at *
  have HN := hide (next_any p A2 cap2 (behindT (t :: ts)) 0 0 0 w3 HSB.out.r (by have := behind_le (t :: ts); simp at this; omega))
  refine HN.out.mono ?_
  rintro e w4 ⟨rfl, rfl⟩
  go_upto_if 23 with fail
  go_cut [7] (fun va wx => ∃ (all : Fo) (xs : List Value) (B : Nat → Prop) (A' : Option Addr) (cap' : Nat) (ts' : List BTok), SB p w wx w.heap.size w2.heap.size t.pos (wordsT (t :: ts)) (.slice Aw (wordsT (t :: ts)).length cw) (.slice Ap (wordsT (t :: ts)).length cp) va all xs B A' cap' ts' ∧ ts'.length ≤ ts.length ∧ all.len ≤ 100000 ∧ stmtF (fun o r => listF g (deep + 1) o r) deep t.pos (t :: ts) = tailS (fun o r => listF g (deep + 1) o r) deep t.pos (wordsT (t :: ts)) all ts')
  case first =>
    by_cases k5 : kindT (behindT (t :: ts)) = 5
    · have kb : (kindT (behindT (t :: ts)) == 5) = true := by simpa using k5
      have hbl := behind_le ts
      have hbt : behindT (t :: ts) = behindT ts := by rw [behindT, if_pos hk]
      obtain ⟨x, bs, hbs⟩ : ∃ x bs, behindT (t :: ts) = x :: bs := by
        cases e : behindT (t :: ts) with
        | nil => rw [e] at k5; simp [kindT] at k5
        | cons x bs => exact ⟨x, bs, rfl⟩
      have hx5 : x.k = 5 := by rw [hbs] at k5; exact k5
      have hlen5 : bs.length + 1 ≤ ts.length := by rw [hbt] at hbs; rw [hbs] at hbl; simpa using hbl
      rw [hbs] at HSB
      have HOF := hide (off_any p A2 cap2 x bs 0 0 0 w3 HSB.out.r (by omega) HSB.out.r.cm)
      have HB5 := hide (And.intro hbs hx5)
      clear hbs hx5 hbt hbl k5
      go_wp2_with fail
      refine HOF.out.mono ?_
      rintro e w5 ⟨rfl, ho5, A5, hr5⟩
      have HWI := hide (words_any p A5 (cap2 - 1) bs w5 hr5 (by omega) hr5.cm)
      have HO5 := hide ho5
      clear ho5 hr5 HOF
      go_wp2_with fail
      refine HWI.out.mono ?_
      intro e w6 hh
      obtain ⟨A6, cap6, iw, ip, rfl, hWI⟩ := hh
      have HI := hide hWI
      obtain ⟨Bw, dw, rfl⟩ := own_slice hWI.ow
      obtain ⟨Bp, dp, rfl⟩ := own_slice hWI.op
      clear hWI HWI
      go_wp2_with fail
      have HSI := hide (show SI p w (w6.alloc (NodeC (.slice Bw (wordsT bs).length dw) (.slice Bp (wordsT bs).length dp) false (.slice none 0 0))) w.heap.size w2.heap.size w6.heap.size t.pos (wordsT (t :: ts)) (wordsT bs) (.slice Aw (wordsT (t :: ts)).length cw) (.slice Ap (wordsT (t :: ts)).length cp) (.slice Bw (wordsT bs).length dw) (.slice Bp (wordsT bs).length dp) (.slice none 0 0) .nil [] (fun _ => False) A6 cap6 (behindT bs) from by
        have h1 := only_trans HO5.out HI.out.o
        have hs5 : w.heap.size ≤ w5.heap.size := Nat.le_trans HSB.out.o.size HO5.out.size
        have hb5 : w.heap.size ≠ p := by omega
        have hb6 : w2.heap.size ≠ p := by have := HSB.out.h6; omega
        exact ⟨⟨only_alloc (only_trans HSB.out.o h1) _, Nat.le_refl _, HSB.out.h6, heap_old (only_heap h1 HSB.out.f5 hb5), heap_old (only_heap h1 HSB.out.n6 hb6), (own_only HSB.out.ow h1 hp).alloc _, (own_only HSB.out.op h1 hp).alloc _, los_nil _ _, HI.out.r.below (bel_one w6 _)⟩, heap_new w6 _, own_base (HI.out.ow.alloc _) hs5, own_base (HI.out.op.alloc _) hs5⟩)
      have hml : (wordsT bs).length ≤ 100000 := by have := congrArg List.length (words_behind bs); simp at this; omega
      have HBB := hide (congrArg List.length (words_behind bs))
      have HB68 := hide (show w2.heap.size ≤ w6.heap.size from by
        have h1 : w3.heap.size = w2.heap.size + 1 := by rw [← hw3]; simp
        have h2 := HO5.out.size
        have h3 := HI.out.o.size
        omega)
      clear HSB HO5 HI HN HW HH H5
      generalize hmm : wordsT bs = m at *
      go_loopw [7, 31] (fun va j wr => ∃ (i : Nat) (xs : List Value) (B : Nat → Prop), j = .int .i64 i ∧ i ≤ m.length ∧ SI p w wr w.heap.size w2.heap.size w6.heap.size t.pos (wordsT (t :: ts)) m (.slice Aw (wordsT (t :: ts)).length cw) (.slice Ap (wordsT (t :: ts)).length cp) (.slice Bw m.length dw) (.slice Bp m.length dp) va (leafs (wordsT (t :: ts)) (m.take i)) xs B A6 cap6 (behindT bs) ∧ ∀ q, va.ownBlock = some q → w6.heap.size < q) (fun _ j _ => m.length - (intOf j).toNat)
      case atStart => exact ⟨0, _, _, rfl, Nat.zero_le _, HSI.out, fun q e => by cases e⟩
      case round =>
        clear HSI
        obtain ⟨i, xs, B, rfl, hi, hX, hvb⟩ := hrel
        obtain ⟨Av, cv, rfl⟩ := own_slice hX.s.al.own
        have HX := hide hX
        have HVB := hide hvb
        clear hX hvb
        rcases Nat.lt_or_ge i m.length with hlt | hge
        · obtain ⟨u, hu⟩ : ∃ u, m[i]? = some u := ⟨m[i], List.getElem?_eq_getElem hlt⟩
          obtain ⟨gi, ci, hgi, _, _⟩ := own_some HX.out.iw (by omega)
          obtain ⟨gp, cp2, hgp, _, hgpl⟩ := own_some HX.out.ip (by omega)
          simp only [Value.slice.injEq, true_and] at hgi hgp
          obtain ⟨rfl, rfl⟩ := hgi
          obtain ⟨rfl, rfl⟩ := hgp
          have hcw := own_cells HX.out.iw i (.string u.b) (by rw [List.getElem?_map, hu]; rfl)
          have hpg := posC_get (m.map BTok.pos) i u.pos (by rw [List.getElem?_map, hu]; rfl)
          have hc0 := own_cells HX.out.ip (i * 2) _ hpg.1
          have hc1 := own_cells HX.out.ip (i * 2 + 1) _ hpg.2
          rw [show (⟨gi, 0, none⟩ : Addr).add i = ⟨gi, i, none⟩ by simp [Addr.add, eq_comm]] at hcw
          rw [show (⟨gp, 0, none⟩ : Addr).add (i * 2) = ⟨gp, i * 2, none⟩ by simp [Addr.add, eq_comm]] at hc0
          rw [show (⟨gp, 0, none⟩ : Addr).add (i * 2 + 1) = ⟨gp, i * 2 + 1, none⟩ by simp [Addr.add, eq_comm]] at hc1
          have hds0 : DS w2.heap.size w6.heap.size (.slice Aw (wordsT (t :: ts)).length cw) (.slice Ap (wordsT (t :: ts)).length cp) (.slice (some ⟨gi, 0, none⟩) m.length dw) (.slice (some ⟨gp, 0, none⟩) m.length dp) gp i u wr := ⟨HX.out.s.n6, HX.out.n8, hc0, hc1⟩
          have hds : DS w2.heap.size w6.heap.size (.slice Aw (wordsT (t :: ts)).length cw) (.slice Ap (wordsT (t :: ts)).length cp) (.slice (some ⟨gi, 0, none⟩) m.length dw) (.slice (some ⟨gp, 0, none⟩) m.length dp) gp i u wr.drew := ⟨HX.out.s.n6, HX.out.n8, hc0, hc1⟩
          have HDS := hide hds
          have HS0 := hide (show Dz wr wr.drew w2.heap.size w6.heap.size (.slice Aw (wordsT (t :: ts)).length cw) (.slice Ap (wordsT (t :: ts)).length cp) (.slice (some ⟨gi, 0, none⟩) m.length dw) (.slice (some ⟨gp, 0, none⟩) m.length dp) gp i u (.slice none 0 0) [] (.slice none 0 0) [] from ⟨(Below.refl _ wr).drew, hds0, hgpl, ⟨rfl, .inl ⟨rfl, rfl⟩⟩, ⟨rfl, .inl ⟨rfl, rfl⟩⟩⟩)
          have k0 := fun x => cell_heap (j := 0) (pin_in hds x).n6 rfl
          have k1 := fun x => cell_heap (j := 1) (pin_in hds x).n6 rfl
          have k2 := fun x => cell_heap (j := 1) (pin_in hds x).n8 rfl
          have c0 := fun x => (pin_in hds x).c0
          have c1 := fun x => (pin_in hds x).c1
          have b0 := cell_heap (j := 0) HX.out.n8 rfl
          have HLL := hide (show (leafs (wordsT (t :: ts)) (m.take i)).len ≤ 100000 from by rw [leafs_len, List.length_take]; omega)
          have HLF := hide (show leafs (wordsT (t :: ts)) (m.take (i + 1)) = (leafs (wordsT (t :: ts)) (m.take i)).app (leafs (wordsT (t :: ts)) [u]) from by rw [← leafs_app, List.take_add_one, hu]; rfl)
          have HN1 := hide (show 1 ≤ (wordsT (t :: ts)).length from by rw [wordsT, if_pos hk]; simp)
          have HN2 := hide (show (wordsT (t :: ts)).length ≤ 100000 from by have := congrArg List.length (words_behind (t :: ts)); simp at this; omega)
          have d1 : decide (i < m.length) = true := decide_eq_true hlt
          have d1' : decide ((i : Int) < m.length) = true := decide_eq_true (by omega)
          have d2 : ((i : Int) < m.length) := by omega
          clear hds0 hds hc0 hc1 hpg hu hgpl
          go_wp2_with fail
          -- R10
          refine wp_region_tree (DS w2.heap.size w6.heap.size (.slice Aw (wordsT (t :: ts)).length cw) (.slice Ap (wordsT (t :: ts)).length cp) (.slice (some ⟨gi, 0, none⟩) m.length dw) (.slice (some ⟨gp, 0, none⟩) m.length dp) gp i u) (fun k => ([19, 20] : List Nat).contains k) (.take [0, 1, 2, 4, 7, 8, 10, 11, 12, 13, 14] (.fork3 3 (.fork 5 (.fork 6 (.fork 9 (.step 15 (.step 16 (.step 17 (.step 18 (.step 19 (.step 20 .done)))))) 15 (.step 9 (.step 16 (.step 17 (.step 18 (.step 19 (.step 20 .done))))))) 15 (.step 6 (.step 9 (.step 16 (.step 17 (.step 18 (.step 19 (.step 20 .done)))))))) 15 (.step 5 (.step 6 (.step 9 (.step 16 (.step 17 (.step 18 (.step 19 (.step 20 .done))))))))) 5 (.fork 3 (.fork 6 (.fork 9 (.step 15 (.step 16 (.step 17 (.step 18 (.step 19 (.step 20 .done)))))) 15 (.step 9 (.step 16 (.step 17 (.step 18 (.step 19 (.step 20 .done))))))) 15 (.step 6 (.step 9 (.step 16 (.step 17 (.step 18 (.step 19 (.step 20 .done)))))))) 15 (.step 3 (.step 6 (.step 9 (.step 16 (.step 17 (.step 18 (.step 19 (.step 20 .done))))))))) 15 (.fork 3 (.step 5 (.step 6 (.step 9 (.step 16 (.step 17 (.step 18 (.step 19 (.step 20 .done)))))))) 5 (.step 3 (.step 6 (.step 9 (.step 16 (.step 17 (.step 18 (.step 19 (.step 20 .done))))))))))) (by kernel_rfl) (by kernel_rfl) (by kernel_rfl) (by kernel_rfl) (.take (.cons (.zero) (.cons (.succ (.zero)) (.cons (.succ (.succ (.zero))) (.cons (.succ (.succ (.succ (.succ (.zero))))) (.cons (.succ (.succ (.succ (.succ (.succ (.succ (.succ (.zero)))))))) (.cons (.succ (.succ (.succ (.succ (.succ (.succ (.succ (.succ (.zero))))))))) (.cons (.succ (.succ (.succ (.succ (.succ (.succ (.succ (.succ (.succ (.succ (.zero))))))))))) (.cons (.succ (.succ (.succ (.succ (.succ (.succ (.succ (.succ (.succ (.succ (.succ (.zero)))))))))))) (.cons (.succ (.succ (.succ (.succ (.succ (.succ (.succ (.succ (.succ (.succ (.succ (.succ (.zero))))))))))))) (.cons (.succ (.succ (.succ (.succ (.succ (.succ (.succ (.succ (.succ (.succ (.succ (.succ (.succ (.zero)))))))))))))) (.cons (.succ (.succ (.succ (.succ (.succ (.succ (.succ (.succ (.succ (.succ (.succ (.succ (.succ (.succ (.zero))))))))))))))) .nil))))))))))) (.fork3 (.succ (.succ (.succ (.zero)))) rfl (.fork (.succ (.succ (.succ (.succ (.succ (.zero)))))) rfl (.fork (.succ (.succ (.succ (.succ (.succ (.succ (.zero))))))) rfl (.fork (.succ (.succ (.succ (.succ (.succ (.succ (.succ (.succ (.succ (.zero)))))))))) rfl (.step (.succ (.succ (.succ (.succ (.succ (.succ (.succ (.succ (.succ (.succ (.succ (.succ (.succ (.succ (.succ (.zero)))))))))))))))) rfl (.step (.succ (.succ (.succ (.succ (.succ (.succ (.succ (.succ (.succ (.succ (.succ (.succ (.succ (.succ (.succ (.succ (.zero))))))))))))))))) rfl (.step (.succ (.succ (.succ (.succ (.succ (.succ (.succ (.succ (.succ (.succ (.succ (.succ (.succ (.succ (.succ (.succ (.succ (.zero)))))))))))))))))) rfl (.step (.succ (.succ (.succ (.succ (.succ (.succ (.succ (.succ (.succ (.succ (.succ (.succ (.succ (.succ (.succ (.succ (.succ (.succ (.zero))))))))))))))))))) rfl (.step (.succ (.succ (.succ (.succ (.succ (.succ (.succ (.succ (.succ (.succ (.succ (.succ (.succ (.succ (.succ (.succ (.succ (.succ (.succ (.zero)))))))))))))))))))) rfl (.step (.succ (.succ (.succ (.succ (.succ (.succ (.succ (.succ (.succ (.succ (.succ (.succ (.succ (.succ (.succ (.succ (.succ (.succ (.succ (.succ (.zero))))))))))))))))))))) rfl .done)))))) (.succ (.succ (.succ (.succ (.succ (.succ (.succ (.succ (.succ (.succ (.succ (.succ (.succ (.succ (.succ (.zero)))))))))))))))) rfl (.step (.succ (.succ (.succ (.succ (.succ (.succ (.succ (.succ (.succ (.zero)))))))))) rfl (.step (.succ (.succ (.succ (.succ (.succ (.succ (.succ (.succ (.succ (.succ (.succ (.succ (.succ (.succ (.succ (.succ (.zero))))))))))))))))) rfl (.step (.succ (.succ (.succ (.succ (.succ (.succ (.succ (.succ (.succ (.succ (.succ (.succ (.succ (.succ (.succ (.succ (.succ (.zero)))))))))))))))))) rfl (.step (.succ (.succ (.succ (.succ (.succ (.succ (.succ (.succ (.succ (.succ (.succ (.succ (.succ (.succ (.succ (.succ (.succ (.succ (.zero))))))))))))))))))) rfl (.step (.succ (.succ (.succ (.succ (.succ (.succ (.succ (.succ (.succ (.succ (.succ (.succ (.succ (.succ (.succ (.succ (.succ (.succ (.succ (.zero)))))))))))))))))))) rfl (.step (.succ (.succ (.succ (.succ (.succ (.succ (.succ (.succ (.succ (.succ (.succ (.succ (.succ (.succ (.succ (.succ (.succ (.succ (.succ (.succ (.zero))))))))))))))))))))) rfl .done))))))) (.succ (.succ (.succ (.succ (.succ (.succ (.succ (.succ (.succ (.succ (.succ (.succ (.succ (.succ (.succ (.zero)))))))))))))))) rfl (.step (.succ (.succ (.succ (.succ (.succ (.succ (.zero))))))) rfl (.step (.succ (.succ (.succ (.succ (.succ (.succ (.succ (.succ (.succ (.zero)))))))))) rfl (.step (.succ (.succ (.succ (.succ (.succ (.succ (.succ (.succ (.succ (.succ (.succ (.succ (.succ (.succ (.succ (.succ (.zero))))))))))))))))) rfl (.step (.succ (.succ (.succ (.succ (.succ (.succ (.succ (.succ (.succ (.succ (.succ (.succ (.succ (.succ (.succ (.succ (.succ (.zero)))))))))))))))))) rfl (.step (.succ (.succ (.succ (.succ (.succ (.succ (.succ (.succ (.succ (.succ (.succ (.succ (.succ (.succ (.succ (.succ (.succ (.succ (.zero))))))))))))))))))) rfl (.step (.succ (.succ (.succ (.succ (.succ (.succ (.succ (.succ (.succ (.succ (.succ (.succ (.succ (.succ (.succ (.succ (.succ (.succ (.succ (.zero)))))))))))))))))))) rfl (.step (.succ (.succ (.succ (.succ (.succ (.succ (.succ (.succ (.succ (.succ (.succ (.succ (.succ (.succ (.succ (.succ (.succ (.succ (.succ (.succ (.zero))))))))))))))))))))) rfl .done)))))))) (.succ (.succ (.succ (.succ (.succ (.succ (.succ (.succ (.succ (.succ (.succ (.succ (.succ (.succ (.succ (.zero)))))))))))))))) rfl (.step (.succ (.succ (.succ (.succ (.succ (.zero)))))) rfl (.step (.succ (.succ (.succ (.succ (.succ (.succ (.zero))))))) rfl (.step (.succ (.succ (.succ (.succ (.succ (.succ (.succ (.succ (.succ (.zero)))))))))) rfl (.step (.succ (.succ (.succ (.succ (.succ (.succ (.succ (.succ (.succ (.succ (.succ (.succ (.succ (.succ (.succ (.succ (.zero))))))))))))))))) rfl (.step (.succ (.succ (.succ (.succ (.succ (.succ (.succ (.succ (.succ (.succ (.succ (.succ (.succ (.succ (.succ (.succ (.succ (.zero)))))))))))))))))) rfl (.step (.succ (.succ (.succ (.succ (.succ (.succ (.succ (.succ (.succ (.succ (.succ (.succ (.succ (.succ (.succ (.succ (.succ (.succ (.zero))))))))))))))))))) rfl (.step (.succ (.succ (.succ (.succ (.succ (.succ (.succ (.succ (.succ (.succ (.succ (.succ (.succ (.succ (.succ (.succ (.succ (.succ (.succ (.zero)))))))))))))))))))) rfl (.step (.succ (.succ (.succ (.succ (.succ (.succ (.succ (.succ (.succ (.succ (.succ (.succ (.succ (.succ (.succ (.succ (.succ (.succ (.succ (.succ (.zero))))))))))))))))))))) rfl .done))))))))) (.succ (.succ (.succ (.succ (.succ (.zero)))))) rfl (.fork (.succ (.succ (.succ (.zero)))) rfl (.fork (.succ (.succ (.succ (.succ (.succ (.succ (.zero))))))) rfl (.fork (.succ (.succ (.succ (.succ (.succ (.succ (.succ (.succ (.succ (.zero)))))))))) rfl (.step (.succ (.succ (.succ (.succ (.succ (.succ (.succ (.succ (.succ (.succ (.succ (.succ (.succ (.succ (.succ (.zero)))))))))))))))) rfl (.step (.succ (.succ (.succ (.succ (.succ (.succ (.succ (.succ (.succ (.succ (.succ (.succ (.succ (.succ (.succ (.succ (.zero))))))))))))))))) rfl (.step (.succ (.succ (.succ (.succ (.succ (.succ (.succ (.succ (.succ (.succ (.succ (.succ (.succ (.succ (.succ (.succ (.succ (.zero)))))))))))))))))) rfl (.step (.succ (.succ (.succ (.succ (.succ (.succ (.succ (.succ (.succ (.succ (.succ (.succ (.succ (.succ (.succ (.succ (.succ (.succ (.zero))))))))))))))))))) rfl (.step (.succ (.succ (.succ (.succ (.succ (.succ (.succ (.succ (.succ (.succ (.succ (.succ (.succ (.succ (.succ (.succ (.succ (.succ (.succ (.zero)))))))))))))))))))) rfl (.step (.succ (.succ (.succ (.succ (.succ (.succ (.succ (.succ (.succ (.succ (.succ (.succ (.succ (.succ (.succ (.succ (.succ (.succ (.succ (.succ (.zero))))))))))))))))))))) rfl .done)))))) (.succ (.succ (.succ (.succ (.succ (.succ (.succ (.succ (.succ (.succ (.succ (.succ (.succ (.succ (.succ (.zero)))))))))))))))) rfl (.step (.succ (.succ (.succ (.succ (.succ (.succ (.succ (.succ (.succ (.zero)))))))))) rfl (.step (.succ (.succ (.succ (.succ (.succ (.succ (.succ (.succ (.succ (.succ (.succ (.succ (.succ (.succ (.succ (.succ (.zero))))))))))))))))) rfl (.step (.succ (.succ (.succ (.succ (.succ (.succ (.succ (.succ (.succ (.succ (.succ (.succ (.succ (.succ (.succ (.succ (.succ (.zero)))))))))))))))))) rfl (.step (.succ (.succ (.succ (.succ (.succ (.succ (.succ (.succ (.succ (.succ (.succ (.succ (.succ (.succ (.succ (.succ (.succ (.succ (.zero))))))))))))))))))) rfl (.step (.succ (.succ (.succ (.succ (.succ (.succ (.succ (.succ (.succ (.succ (.succ (.succ (.succ (.succ (.succ (.succ (.succ (.succ (.succ (.zero)))))))))))))))))))) rfl (.step (.succ (.succ (.succ (.succ (.succ (.succ (.succ (.succ (.succ (.succ (.succ (.succ (.succ (.succ (.succ (.succ (.succ (.succ (.succ (.succ (.zero))))))))))))))))))))) rfl .done))))))) (.succ (.succ (.succ (.succ (.succ (.succ (.succ (.succ (.succ (.succ (.succ (.succ (.succ (.succ (.succ (.zero)))))))))))))))) rfl (.step (.succ (.succ (.succ (.succ (.succ (.succ (.zero))))))) rfl (.step (.succ (.succ (.succ (.succ (.succ (.succ (.succ (.succ (.succ (.zero)))))))))) rfl (.step (.succ (.succ (.succ (.succ (.succ (.succ (.succ (.succ (.succ (.succ (.succ (.succ (.succ (.succ (.succ (.succ (.zero))))))))))))))))) rfl (.step (.succ (.succ (.succ (.succ (.succ (.succ (.succ (.succ (.succ (.succ (.succ (.succ (.succ (.succ (.succ (.succ (.succ (.zero)))))))))))))))))) rfl (.step (.succ (.succ (.succ (.succ (.succ (.succ (.succ (.succ (.succ (.succ (.succ (.succ (.succ (.succ (.succ (.succ (.succ (.succ (.zero))))))))))))))))))) rfl (.step (.succ (.succ (.succ (.succ (.succ (.succ (.succ (.succ (.succ (.succ (.succ (.succ (.succ (.succ (.succ (.succ (.succ (.succ (.succ (.zero)))))))))))))))))))) rfl (.step (.succ (.succ (.succ (.succ (.succ (.succ (.succ (.succ (.succ (.succ (.succ (.succ (.succ (.succ (.succ (.succ (.succ (.succ (.succ (.succ (.zero))))))))))))))))))))) rfl .done)))))))) (.succ (.succ (.succ (.succ (.succ (.succ (.succ (.succ (.succ (.succ (.succ (.succ (.succ (.succ (.succ (.zero)))))))))))))))) rfl (.step (.succ (.succ (.succ (.zero)))) rfl (.step (.succ (.succ (.succ (.succ (.succ (.succ (.zero))))))) rfl (.step (.succ (.succ (.succ (.succ (.succ (.succ (.succ (.succ (.succ (.zero)))))))))) rfl (.step (.succ (.succ (.succ (.succ (.succ (.succ (.succ (.succ (.succ (.succ (.succ (.succ (.succ (.succ (.succ (.succ (.zero))))))))))))))))) rfl (.step (.succ (.succ (.succ (.succ (.succ (.succ (.succ (.succ (.succ (.succ (.succ (.succ (.succ (.succ (.succ (.succ (.succ (.zero)))))))))))))))))) rfl (.step (.succ (.succ (.succ (.succ (.succ (.succ (.succ (.succ (.succ (.succ (.succ (.succ (.succ (.succ (.succ (.succ (.succ (.succ (.zero))))))))))))))))))) rfl (.step (.succ (.succ (.succ (.succ (.succ (.succ (.succ (.succ (.succ (.succ (.succ (.succ (.succ (.succ (.succ (.succ (.succ (.succ (.succ (.zero)))))))))))))))))))) rfl (.step (.succ (.succ (.succ (.succ (.succ (.succ (.succ (.succ (.succ (.succ (.succ (.succ (.succ (.succ (.succ (.succ (.succ (.succ (.succ (.succ (.zero))))))))))))))))))))) rfl .done))))))))) (.succ (.succ (.succ (.succ (.succ (.succ (.succ (.succ (.succ (.succ (.succ (.succ (.succ (.succ (.succ (.zero)))))))))))))))) rfl (.fork (.succ (.succ (.succ (.zero)))) rfl (.step (.succ (.succ (.succ (.succ (.succ (.zero)))))) rfl (.step (.succ (.succ (.succ (.succ (.succ (.succ (.zero))))))) rfl (.step (.succ (.succ (.succ (.succ (.succ (.succ (.succ (.succ (.succ (.zero)))))))))) rfl (.step (.succ (.succ (.succ (.succ (.succ (.succ (.succ (.succ (.succ (.succ (.succ (.succ (.succ (.succ (.succ (.succ (.zero))))))))))))))))) rfl (.step (.succ (.succ (.succ (.succ (.succ (.succ (.succ (.succ (.succ (.succ (.succ (.succ (.succ (.succ (.succ (.succ (.succ (.zero)))))))))))))))))) rfl (.step (.succ (.succ (.succ (.succ (.succ (.succ (.succ (.succ (.succ (.succ (.succ (.succ (.succ (.succ (.succ (.succ (.succ (.succ (.zero))))))))))))))))))) rfl (.step (.succ (.succ (.succ (.succ (.succ (.succ (.succ (.succ (.succ (.succ (.succ (.succ (.succ (.succ (.succ (.succ (.succ (.succ (.succ (.zero)))))))))))))))))))) rfl (.step (.succ (.succ (.succ (.succ (.succ (.succ (.succ (.succ (.succ (.succ (.succ (.succ (.succ (.succ (.succ (.succ (.succ (.succ (.succ (.succ (.zero))))))))))))))))))))) rfl .done)))))))) (.succ (.succ (.succ (.succ (.succ (.zero)))))) rfl (.step (.succ (.succ (.succ (.zero)))) rfl (.step (.succ (.succ (.succ (.succ (.succ (.succ (.zero))))))) rfl (.step (.succ (.succ (.succ (.succ (.succ (.succ (.succ (.succ (.succ (.zero)))))))))) rfl (.step (.succ (.succ (.succ (.succ (.succ (.succ (.succ (.succ (.succ (.succ (.succ (.succ (.succ (.succ (.succ (.succ (.zero))))))))))))))))) rfl (.step (.succ (.succ (.succ (.succ (.succ (.succ (.succ (.succ (.succ (.succ (.succ (.succ (.succ (.succ (.succ (.succ (.succ (.zero)))))))))))))))))) rfl (.step (.succ (.succ (.succ (.succ (.succ (.succ (.succ (.succ (.succ (.succ (.succ (.succ (.succ (.succ (.succ (.succ (.succ (.succ (.zero))))))))))))))))))) rfl (.step (.succ (.succ (.succ (.succ (.succ (.succ (.succ (.succ (.succ (.succ (.succ (.succ (.succ (.succ (.succ (.succ (.succ (.succ (.succ (.zero)))))))))))))))))))) rfl (.step (.succ (.succ (.succ (.succ (.succ (.succ (.succ (.succ (.succ (.succ (.succ (.succ (.succ (.succ (.succ (.succ (.succ (.succ (.succ (.succ (.zero))))))))))))))))))))) rfl .done))))))))))) ?hQ ?hS ?_
          case hQ => exact fun _ _ _ _ _ h => h
          case hS => exact HDS.out
          refine wpT_take ?_
          repeat (first | go_big_quiet_step ((fail)) | quiet_step ((fail)))
          refine wpQuiet_nil ?_
          have HZ := HS0
          generalize wr.drew = x0 at *
          refine wpT_fork3 ?_ ?_ ?_
          · refine wpT_step rfl ?_
            intro K1 hK1
            go_wp2_with fail
            refine (clone_words _ x0 (own_belw HX.out.s.ow HZ.out.b) HN1.out HN2.out).mono ?_
            rintro e x1 ⟨v', rfl, hox, hbx⟩
            have HZq := hide (HZ.out.cloneS hox hbx)
            obtain ⟨Acw, ccw, rfl⟩ := own_slice hox
            clear hox hbx
            (try go_wp2_with fail)
            refine hK1.out _ _ (fun _ => pin_mem HZq.out.s) ?_
            clear HZ hK1; have HZ := HZq; clear HZq
            refine wpT_fork ?_ ?_
            · refine wpT_step rfl ?_
              intro K1 hK1
              go_wp2_with fail
              have HZq := hide (HZ.out.alloc (Obj.cells #[.string u.b] 9))
              have HS := hide (heap_new x1 (Obj.cells #[.string u.b] 9))
              refine hK1.out _ _ (fun _ => pin_mem HZq.out.s) ?_
              clear HZ hK1; have HZ := HZq; clear HZq
              generalize hb_bks : x1.heap.size = bks at *
              generalize x1.alloc (Obj.cells #[.string u.b] 9) = x2 at *
              clear hb_bks
              refine wpT_fork ?_ ?_
              · refine wpT_step rfl ?_
                intro K1 hK1
                refine wp_append_lies _ (.tmp 39) (.tmp 41) 41 rfl wr.heap.size 9 si _ 1 16 Try.underlying41 sz0 sz ss sb rfl (by decide) _ _ _ rfl HZ.out.ow ⟨bks, 0, none⟩ 1 1 [.string u.b] rfl rfl (row_at HS.out) ?ones (by omega) ?c63 ?cby HZ.out.b.size _ rfl ?_
                case ones => simp [Value.oneCell']
                case c63 => have := HN2.out; unfold maxLen; omega
                case cby => have := HN2.out; omega
                intro gs cgs x3 hown hgrow _ _
                have HZq := hide (HZ.out.str u rfl hown hgrow)
                refine hK1.out _ _ (fun _ => pin_mem HZq.out.s) ?_
                clear HZ hK1 hown hgrow; have HZ := HZq; clear HZq
                refine wpT_fork ?_ ?_
                · refine wpT_step rfl ?_
                  intro K1 hK1
                  go_wp2_with fail
                  refine (clone_pos _ x3 (own_belw HX.out.s.op HZ.out.b) HN1.out HN2.out).mono ?_
                  rintro e x4 ⟨v', rfl, hox, hbx⟩
                  have HZq := hide (HZ.out.cloneP hox hbx)
                  obtain ⟨Acp, ccp, rfl⟩ := own_slice hox
                  clear hox hbx
                  (try go_wp2_with fail)
                  refine hK1.out _ _ (fun _ => pin_mem HZq.out.s) ?_
                  clear HZ hK1; have HZ := HZq; clear HZq
                  refine wpT_step rfl ?_
                  intro K1 hK1
                  go_wp2_with fail
                  have HZq := hide (HZ.out.alloc (Obj.cells #[.int .i64 u.l, .int .i64 u.c] 24))
                  have HP := hide (heap_new x4 (Obj.cells #[.int .i64 u.l, .int .i64 u.c] 24))
                  refine hK1.out _ _ (fun _ => pin_mem HZq.out.s) ?_
                  clear HZ hK1; have HZ := HZq; clear HZq
                  generalize hb_bkp : x4.heap.size = bkp at *
                  generalize x4.alloc (Obj.cells #[.int .i64 u.l, .int .i64 u.c] 24) = x5 at *
                  clear hb_bkp
                  refine wpT_step rfl ?_
                  intro K1 hK1
                  refine wp_append_lies _ (.tmp 45) (.tmp 51) 42 rfl wr.heap.size 24 qi _ 2 16 Try.underlying42 qz0 qz qs qb rfl (by decide) _ _ _ rfl HZ.out.op ⟨bkp, 0, none⟩ 1 1 [.int .i64 u.l, .int .i64 u.c] rfl rfl (row_at HP.out) ?ones (by omega) ?c63 ?cby HZ.out.b.size _ rfl ?_
                  case ones => simp [Value.oneCell']
                  case c63 => have := HN2.out; unfold maxLen; omega
                  case cby => have := HN2.out; omega
                  intro gp2 cgp x6 hown hgrow _ _
                  have HZq := hide (HZ.out.pos u rfl hown hgrow)
                  refine hK1.out _ _ (fun _ => pin_mem HZq.out.s) ?_
                  clear HZ hK1 hown hgrow; have HZ := HZq; clear HZq
                  refine wpT_step rfl ?_
                  intro K1 hK1
                  go_wp2_with fail
                  refine hK1.out _ _ (fun _ => pin_mem HZ.out.s) ?_
                  clear hK1
                  refine wpT_step rfl ?_
                  intro K1 hK1
                  go_wp2_with fail
                  have HZ8 := hide (HZ.out.alloc (NodeC (.slice (some ⟨gs, 0, none⟩) ((wordsT (t :: ts)).length + 1) cgs) (.slice (some ⟨gp2, 0, none⟩) ((wordsT (t :: ts)).length + 1) cgp) false (.slice none 0 0)))
                  have HN8 := hide (heap_new x6 (NodeC (.slice (some ⟨gs, 0, none⟩) ((wordsT (t :: ts)).length + 1) cgs) (.slice (some ⟨gp2, 0, none⟩) ((wordsT (t :: ts)).length + 1) cgp) false (.slice none 0 0)))
                  refine hK1.out _ _ (fun _ => pin_mem HZ8.out.s) ?_
                  clear hK1
                  refine wpT_step rfl ?_
                  intro K1 hK1
                  refine wp_append_lies _ (.tmp 36) (.tmp 54) 36 rfl w.heap.size 44 ni _ 4 80 Try.underlying36 nz0 nz ns nb rfl (by decide) _ _ _ rfl (own_belw HX.out.s.al.own HZ8.out.b) ⟨x6.heap.size, 0, none⟩ 1 1 [.slice (some ⟨gs, 0, none⟩) ((wordsT (t :: ts)).length + 1) cgs, .slice (some ⟨gp2, 0, none⟩) ((wordsT (t :: ts)).length + 1) cgp, .bool false, .slice none 0 0] rfl rfl (row_at HN8.out) ?ones (by omega) ?c63 ?cby ?cbase _ rfl ?_
                  case ones => simp [Value.oneCell']
                  case c63 => have := HLL.out; unfold maxLen; omega
                  case cby => have := HLL.out; omega
                  case cbase => exact Nat.le_trans HX.out.s.o.size HZ8.out.b.size
                  intro gn cgn y hown hgrow hkk _
                  obtain ⟨B', hSI, hvb⟩ := HX.out.leaf hp HB68.out HVB.out HZ.out.b HZ.out.ow HZ.out.op hown hgrow (hkk.elim (fun h => .inl h.symm) (fun h => .inr (by rw [h]; simp [Value.ownBlock])))
                  have HSI := hide hSI
                  have HVB2 := hide hvb
                  refine hK1.out _ _ (fun h => by cases h) ?_
                  clear hK1 hown hgrow hkk hSI hvb
                  refine wpT_step rfl ?_
                  intro K1 hK1
                  go_wp2_with fail
                  refine hK1.out _ _ (fun h => by cases h) ?_
                  clear hK1
                  refine wpT_done ?_
                  clear HZ HZ8 HN8 HS0 HDS HX HVB k0 k1 k2 c0 c1
                  go_wp2_with fail
                  go_roundw
                  case rel => exact ⟨i + 1, _, _, by go_num, by omega, by rw [HLF.out]; exact HSI.out, HVB2.out⟩
                  case measure => simp [intOf]; omega
                · refine wpT_step rfl ?_
                  intro K1 hK1
                  go_wp2_with fail
                  have HZq := hide (HZ.out.alloc (Obj.cells #[.int .i64 u.l, .int .i64 u.c] 24))
                  have HP := hide (heap_new x3 (Obj.cells #[.int .i64 u.l, .int .i64 u.c] 24))
                  refine hK1.out _ _ (fun _ => pin_mem HZq.out.s) ?_
                  clear HZ hK1; have HZ := HZq; clear HZq
                  generalize hb_bkp : x3.heap.size = bkp at *
                  generalize x3.alloc (Obj.cells #[.int .i64 u.l, .int .i64 u.c] 24) = x4 at *
                  clear hb_bkp
                  refine wpT_step rfl ?_
                  intro K1 hK1
                  go_wp2_with fail
                  refine (clone_pos _ x4 (own_belw HX.out.s.op HZ.out.b) HN1.out HN2.out).mono ?_
                  rintro e x5 ⟨v', rfl, hox, hbx⟩
                  have HZq := hide (HZ.out.cloneP hox hbx)
                  have HPq := hide ((hbx.block _ (lt_heap HP.out)).trans HP.out); clear HP; have HP := HPq; clear HPq
                  obtain ⟨Acp, ccp, rfl⟩ := own_slice hox
                  clear hox hbx
                  (try go_wp2_with fail)
                  refine hK1.out _ _ (fun _ => pin_mem HZq.out.s) ?_
                  clear HZ hK1; have HZ := HZq; clear HZq
                  refine wpT_step rfl ?_
                  intro K1 hK1
                  refine wp_append_lies _ (.tmp 45) (.tmp 51) 42 rfl wr.heap.size 24 qi _ 2 16 Try.underlying42 qz0 qz qs qb rfl (by decide) _ _ _ rfl HZ.out.op ⟨bkp, 0, none⟩ 1 1 [.int .i64 u.l, .int .i64 u.c] rfl rfl (row_at HP.out) ?ones (by omega) ?c63 ?cby HZ.out.b.size _ rfl ?_
                  case ones => simp [Value.oneCell']
                  case c63 => have := HN2.out; unfold maxLen; omega
                  case cby => have := HN2.out; omega
                  intro gp2 cgp x6 hown hgrow _ _
                  have HZq := hide (HZ.out.pos u rfl hown hgrow)
                  refine hK1.out _ _ (fun _ => pin_mem HZq.out.s) ?_
                  clear HZ hK1 hown hgrow; have HZ := HZq; clear HZq
                  refine wpT_step rfl ?_
                  intro K1 hK1
                  go_wp2_with fail
                  refine hK1.out _ _ (fun _ => pin_mem HZ.out.s) ?_
                  clear hK1
                  refine wpT_step rfl ?_
                  intro K1 hK1
                  go_wp2_with fail
                  have HZ8 := hide (HZ.out.alloc (NodeC (.slice (some ⟨gs, 0, none⟩) ((wordsT (t :: ts)).length + 1) cgs) (.slice (some ⟨gp2, 0, none⟩) ((wordsT (t :: ts)).length + 1) cgp) false (.slice none 0 0)))
                  have HN8 := hide (heap_new x6 (NodeC (.slice (some ⟨gs, 0, none⟩) ((wordsT (t :: ts)).length + 1) cgs) (.slice (some ⟨gp2, 0, none⟩) ((wordsT (t :: ts)).length + 1) cgp) false (.slice none 0 0)))
                  refine hK1.out _ _ (fun _ => pin_mem HZ8.out.s) ?_
                  clear hK1
                  refine wpT_step rfl ?_
                  intro K1 hK1
                  refine wp_append_lies _ (.tmp 36) (.tmp 54) 36 rfl w.heap.size 44 ni _ 4 80 Try.underlying36 nz0 nz ns nb rfl (by decide) _ _ _ rfl (own_belw HX.out.s.al.own HZ8.out.b) ⟨x6.heap.size, 0, none⟩ 1 1 [.slice (some ⟨gs, 0, none⟩) ((wordsT (t :: ts)).length + 1) cgs, .slice (some ⟨gp2, 0, none⟩) ((wordsT (t :: ts)).length + 1) cgp, .bool false, .slice none 0 0] rfl rfl (row_at HN8.out) ?ones (by omega) ?c63 ?cby ?cbase _ rfl ?_
                  case ones => simp [Value.oneCell']
                  case c63 => have := HLL.out; unfold maxLen; omega
                  case cby => have := HLL.out; omega
                  case cbase => exact Nat.le_trans HX.out.s.o.size HZ8.out.b.size
                  intro gn cgn y hown hgrow hkk _
                  obtain ⟨B', hSI, hvb⟩ := HX.out.leaf hp HB68.out HVB.out HZ.out.b HZ.out.ow HZ.out.op hown hgrow (hkk.elim (fun h => .inl h.symm) (fun h => .inr (by rw [h]; simp [Value.ownBlock])))
                  have HSI := hide hSI
                  have HVB2 := hide hvb
                  refine hK1.out _ _ (fun h => by cases h) ?_
                  clear hK1 hown hgrow hkk hSI hvb
                  refine wpT_step rfl ?_
                  intro K1 hK1
                  go_wp2_with fail
                  refine hK1.out _ _ (fun h => by cases h) ?_
                  clear hK1
                  refine wpT_done ?_
                  clear HZ HZ8 HN8 HS0 HDS HX HVB k0 k1 k2 c0 c1
                  go_wp2_with fail
                  go_roundw
                  case rel => exact ⟨i + 1, _, _, by go_num, by omega, by rw [HLF.out]; exact HSI.out, HVB2.out⟩
                  case measure => simp [intOf]; omega
              · refine wpT_step rfl ?_
                intro K1 hK1
                go_wp2_with fail
                have HZq := hide (HZ.out.alloc (Obj.cells #[.int .i64 u.l, .int .i64 u.c] 24))
                have HSq := hide (heap_old (p := (Obj.cells #[.int .i64 u.l, .int .i64 u.c] 24)) HS.out); clear HS; have HS := HSq; clear HSq
                have HP := hide (heap_new x2 (Obj.cells #[.int .i64 u.l, .int .i64 u.c] 24))
                refine hK1.out _ _ (fun _ => pin_mem HZq.out.s) ?_
                clear HZ hK1; have HZ := HZq; clear HZq
                generalize hb_bkp : x2.heap.size = bkp at *
                generalize x2.alloc (Obj.cells #[.int .i64 u.l, .int .i64 u.c] 24) = x3 at *
                clear hb_bkp
                refine wpT_step rfl ?_
                intro K1 hK1
                refine wp_append_lies _ (.tmp 39) (.tmp 41) 41 rfl wr.heap.size 9 si _ 1 16 Try.underlying41 sz0 sz ss sb rfl (by decide) _ _ _ rfl HZ.out.ow ⟨bks, 0, none⟩ 1 1 [.string u.b] rfl rfl (row_at HS.out) ?ones (by omega) ?c63 ?cby HZ.out.b.size _ rfl ?_
                case ones => simp [Value.oneCell']
                case c63 => have := HN2.out; unfold maxLen; omega
                case cby => have := HN2.out; omega
                intro gs cgs x4 hown hgrow _ _
                have HZq := hide (HZ.out.str u rfl hown hgrow)
                have HPq := hide (heap_grown HP.out hgrow (own_ne_row HZ.out.ow HP.out (by decide))); clear HP; have HP := HPq; clear HPq
                refine hK1.out _ _ (fun _ => pin_mem HZq.out.s) ?_
                clear HZ hK1 hown hgrow; have HZ := HZq; clear HZq
                refine wpT_step rfl ?_
                intro K1 hK1
                go_wp2_with fail
                refine (clone_pos _ x4 (own_belw HX.out.s.op HZ.out.b) HN1.out HN2.out).mono ?_
                rintro e x5 ⟨v', rfl, hox, hbx⟩
                have HZq := hide (HZ.out.cloneP hox hbx)
                have HPq := hide ((hbx.block _ (lt_heap HP.out)).trans HP.out); clear HP; have HP := HPq; clear HPq
                obtain ⟨Acp, ccp, rfl⟩ := own_slice hox
                clear hox hbx
                (try go_wp2_with fail)
                refine hK1.out _ _ (fun _ => pin_mem HZq.out.s) ?_
                clear HZ hK1; have HZ := HZq; clear HZq
                refine wpT_step rfl ?_
                intro K1 hK1
                refine wp_append_lies _ (.tmp 45) (.tmp 51) 42 rfl wr.heap.size 24 qi _ 2 16 Try.underlying42 qz0 qz qs qb rfl (by decide) _ _ _ rfl HZ.out.op ⟨bkp, 0, none⟩ 1 1 [.int .i64 u.l, .int .i64 u.c] rfl rfl (row_at HP.out) ?ones (by omega) ?c63 ?cby HZ.out.b.size _ rfl ?_
                case ones => simp [Value.oneCell']
                case c63 => have := HN2.out; unfold maxLen; omega
                case cby => have := HN2.out; omega
                intro gp2 cgp x6 hown hgrow _ _
                have HZq := hide (HZ.out.pos u rfl hown hgrow)
                refine hK1.out _ _ (fun _ => pin_mem HZq.out.s) ?_
                clear HZ hK1 hown hgrow; have HZ := HZq; clear HZq
                refine wpT_step rfl ?_
                intro K1 hK1
                go_wp2_with fail
                refine hK1.out _ _ (fun _ => pin_mem HZ.out.s) ?_
                clear hK1
                refine wpT_step rfl ?_
                intro K1 hK1
                go_wp2_with fail
                have HZ8 := hide (HZ.out.alloc (NodeC (.slice (some ⟨gs, 0, none⟩) ((wordsT (t :: ts)).length + 1) cgs) (.slice (some ⟨gp2, 0, none⟩) ((wordsT (t :: ts)).length + 1) cgp) false (.slice none 0 0)))
                have HN8 := hide (heap_new x6 (NodeC (.slice (some ⟨gs, 0, none⟩) ((wordsT (t :: ts)).length + 1) cgs) (.slice (some ⟨gp2, 0, none⟩) ((wordsT (t :: ts)).length + 1) cgp) false (.slice none 0 0)))
                refine hK1.out _ _ (fun _ => pin_mem HZ8.out.s) ?_
                clear hK1
                refine wpT_step rfl ?_
                intro K1 hK1
                refine wp_append_lies _ (.tmp 36) (.tmp 54) 36 rfl w.heap.size 44 ni _ 4 80 Try.underlying36 nz0 nz ns nb rfl (by decide) _ _ _ rfl (own_belw HX.out.s.al.own HZ8.out.b) ⟨x6.heap.size, 0, none⟩ 1 1 [.slice (some ⟨gs, 0, none⟩) ((wordsT (t :: ts)).length + 1) cgs, .slice (some ⟨gp2, 0, none⟩) ((wordsT (t :: ts)).length + 1) cgp, .bool false, .slice none 0 0] rfl rfl (row_at HN8.out) ?ones (by omega) ?c63 ?cby ?cbase _ rfl ?_
                case ones => simp [Value.oneCell']
                case c63 => have := HLL.out; unfold maxLen; omega
                case cby => have := HLL.out; omega
                case cbase => exact Nat.le_trans HX.out.s.o.size HZ8.out.b.size
                intro gn cgn y hown hgrow hkk _
                obtain ⟨B', hSI, hvb⟩ := HX.out.leaf hp HB68.out HVB.out HZ.out.b HZ.out.ow HZ.out.op hown hgrow (hkk.elim (fun h => .inl h.symm) (fun h => .inr (by rw [h]; simp [Value.ownBlock])))
                have HSI := hide hSI
                have HVB2 := hide hvb
                refine hK1.out _ _ (fun h => by cases h) ?_
                clear hK1 hown hgrow hkk hSI hvb
                refine wpT_step rfl ?_
                intro K1 hK1
                go_wp2_with fail
                refine hK1.out _ _ (fun h => by cases h) ?_
                clear hK1
                refine wpT_done ?_
                clear HZ HZ8 HN8 HS0 HDS HX HVB k0 k1 k2 c0 c1
                go_wp2_with fail
                go_roundw
                case rel => exact ⟨i + 1, _, _, by go_num, by omega, by rw [HLF.out]; exact HSI.out, HVB2.out⟩
                case measure => simp [intOf]; omega
            · refine wpT_step rfl ?_
              intro K1 hK1
              go_wp2_with fail
              have HZq := hide (HZ.out.alloc (Obj.cells #[.int .i64 u.l, .int .i64 u.c] 24))
              have HP := hide (heap_new x1 (Obj.cells #[.int .i64 u.l, .int .i64 u.c] 24))
              refine hK1.out _ _ (fun _ => pin_mem HZq.out.s) ?_
              clear HZ hK1; have HZ := HZq; clear HZq
              generalize hb_bkp : x1.heap.size = bkp at *
              generalize x1.alloc (Obj.cells #[.int .i64 u.l, .int .i64 u.c] 24) = x2 at *
              clear hb_bkp
              refine wpT_step rfl ?_
              intro K1 hK1
              go_wp2_with fail
              have HZq := hide (HZ.out.alloc (Obj.cells #[.string u.b] 9))
              have HPq := hide (heap_old (p := (Obj.cells #[.string u.b] 9)) HP.out); clear HP; have HP := HPq; clear HPq
              have HS := hide (heap_new x2 (Obj.cells #[.string u.b] 9))
              refine hK1.out _ _ (fun _ => pin_mem HZq.out.s) ?_
              clear HZ hK1; have HZ := HZq; clear HZq
              generalize hb_bks : x2.heap.size = bks at *
              generalize x2.alloc (Obj.cells #[.string u.b] 9) = x3 at *
              clear hb_bks
              refine wpT_step rfl ?_
              intro K1 hK1
              refine wp_append_lies _ (.tmp 39) (.tmp 41) 41 rfl wr.heap.size 9 si _ 1 16 Try.underlying41 sz0 sz ss sb rfl (by decide) _ _ _ rfl HZ.out.ow ⟨bks, 0, none⟩ 1 1 [.string u.b] rfl rfl (row_at HS.out) ?ones (by omega) ?c63 ?cby HZ.out.b.size _ rfl ?_
              case ones => simp [Value.oneCell']
              case c63 => have := HN2.out; unfold maxLen; omega
              case cby => have := HN2.out; omega
              intro gs cgs x4 hown hgrow _ _
              have HZq := hide (HZ.out.str u rfl hown hgrow)
              have HPq := hide (heap_grown HP.out hgrow (own_ne_row HZ.out.ow HP.out (by decide))); clear HP; have HP := HPq; clear HPq
              refine hK1.out _ _ (fun _ => pin_mem HZq.out.s) ?_
              clear HZ hK1 hown hgrow; have HZ := HZq; clear HZq
              refine wpT_step rfl ?_
              intro K1 hK1
              go_wp2_with fail
              refine (clone_pos _ x4 (own_belw HX.out.s.op HZ.out.b) HN1.out HN2.out).mono ?_
              rintro e x5 ⟨v', rfl, hox, hbx⟩
              have HZq := hide (HZ.out.cloneP hox hbx)
              have HPq := hide ((hbx.block _ (lt_heap HP.out)).trans HP.out); clear HP; have HP := HPq; clear HPq
              obtain ⟨Acp, ccp, rfl⟩ := own_slice hox
              clear hox hbx
              (try go_wp2_with fail)
              refine hK1.out _ _ (fun _ => pin_mem HZq.out.s) ?_
              clear HZ hK1; have HZ := HZq; clear HZq
              refine wpT_step rfl ?_
              intro K1 hK1
              refine wp_append_lies _ (.tmp 45) (.tmp 51) 42 rfl wr.heap.size 24 qi _ 2 16 Try.underlying42 qz0 qz qs qb rfl (by decide) _ _ _ rfl HZ.out.op ⟨bkp, 0, none⟩ 1 1 [.int .i64 u.l, .int .i64 u.c] rfl rfl (row_at HP.out) ?ones (by omega) ?c63 ?cby HZ.out.b.size _ rfl ?_
              case ones => simp [Value.oneCell']
              case c63 => have := HN2.out; unfold maxLen; omega
              case cby => have := HN2.out; omega
              intro gp2 cgp x6 hown hgrow _ _
              have HZq := hide (HZ.out.pos u rfl hown hgrow)
              refine hK1.out _ _ (fun _ => pin_mem HZq.out.s) ?_
              clear HZ hK1 hown hgrow; have HZ := HZq; clear HZq
              refine wpT_step rfl ?_
              intro K1 hK1
              go_wp2_with fail
              refine hK1.out _ _ (fun _ => pin_mem HZ.out.s) ?_
              clear hK1
              refine wpT_step rfl ?_
              intro K1 hK1
              go_wp2_with fail
              have HZ8 := hide (HZ.out.alloc (NodeC (.slice (some ⟨gs, 0, none⟩) ((wordsT (t :: ts)).length + 1) cgs) (.slice (some ⟨gp2, 0, none⟩) ((wordsT (t :: ts)).length + 1) cgp) false (.slice none 0 0)))
              have HN8 := hide (heap_new x6 (NodeC (.slice (some ⟨gs, 0, none⟩) ((wordsT (t :: ts)).length + 1) cgs) (.slice (some ⟨gp2, 0, none⟩) ((wordsT (t :: ts)).length + 1) cgp) false (.slice none 0 0)))
              refine hK1.out _ _ (fun _ => pin_mem HZ8.out.s) ?_
              clear hK1
              refine wpT_step rfl ?_
              intro K1 hK1
              refine wp_append_lies _ (.tmp 36) (.tmp 54) 36 rfl w.heap.size 44 ni _ 4 80 Try.underlying36 nz0 nz ns nb rfl (by decide) _ _ _ rfl (own_belw HX.out.s.al.own HZ8.out.b) ⟨x6.heap.size, 0, none⟩ 1 1 [.slice (some ⟨gs, 0, none⟩) ((wordsT (t :: ts)).length + 1) cgs, .slice (some ⟨gp2, 0, none⟩) ((wordsT (t :: ts)).length + 1) cgp, .bool false, .slice none 0 0] rfl rfl (row_at HN8.out) ?ones (by omega) ?c63 ?cby ?cbase _ rfl ?_
              case ones => simp [Value.oneCell']
              case c63 => have := HLL.out; unfold maxLen; omega
              case cby => have := HLL.out; omega
              case cbase => exact Nat.le_trans HX.out.s.o.size HZ8.out.b.size
              intro gn cgn y hown hgrow hkk _
              obtain ⟨B', hSI, hvb⟩ := HX.out.leaf hp HB68.out HVB.out HZ.out.b HZ.out.ow HZ.out.op hown hgrow (hkk.elim (fun h => .inl h.symm) (fun h => .inr (by rw [h]; simp [Value.ownBlock])))
              have HSI := hide hSI
              have HVB2 := hide hvb
              refine hK1.out _ _ (fun h => by cases h) ?_
              clear hK1 hown hgrow hkk hSI hvb
              refine wpT_step rfl ?_
              intro K1 hK1
              go_wp2_with fail
              refine hK1.out _ _ (fun h => by cases h) ?_
              clear hK1
              refine wpT_done ?_
              clear HZ HZ8 HN8 HS0 HDS HX HVB k0 k1 k2 c0 c1
              go_wp2_with fail
              go_roundw
              case rel => exact ⟨i + 1, _, _, by go_num, by omega, by rw [HLF.out]; exact HSI.out, HVB2.out⟩
              case measure => simp [intOf]; omega
          · refine wpT_step rfl ?_
            intro K1 hK1
            go_wp2_with fail
            have HZq := hide (HZ.out.alloc (Obj.cells #[.string u.b] 9))
            have HS := hide (heap_new x0 (Obj.cells #[.string u.b] 9))
            refine hK1.out _ _ (fun _ => pin_mem HZq.out.s) ?_
            clear HZ hK1; have HZ := HZq; clear HZq
            generalize hb_bks : x0.heap.size = bks at *
            generalize x0.alloc (Obj.cells #[.string u.b] 9) = x1 at *
            clear hb_bks
            refine wpT_fork ?_ ?_
            · refine wpT_step rfl ?_
              intro K1 hK1
              go_wp2_with fail
              refine (clone_words _ x1 (own_belw HX.out.s.ow HZ.out.b) HN1.out HN2.out).mono ?_
              rintro e x2 ⟨v', rfl, hox, hbx⟩
              have HZq := hide (HZ.out.cloneS hox hbx)
              have HSq := hide ((hbx.block _ (lt_heap HS.out)).trans HS.out); clear HS; have HS := HSq; clear HSq
              obtain ⟨Acw, ccw, rfl⟩ := own_slice hox
              clear hox hbx
              (try go_wp2_with fail)
              refine hK1.out _ _ (fun _ => pin_mem HZq.out.s) ?_
              clear HZ hK1; have HZ := HZq; clear HZq
              refine wpT_fork ?_ ?_
              · refine wpT_step rfl ?_
                intro K1 hK1
                refine wp_append_lies _ (.tmp 39) (.tmp 41) 41 rfl wr.heap.size 9 si _ 1 16 Try.underlying41 sz0 sz ss sb rfl (by decide) _ _ _ rfl HZ.out.ow ⟨bks, 0, none⟩ 1 1 [.string u.b] rfl rfl (row_at HS.out) ?ones (by omega) ?c63 ?cby HZ.out.b.size _ rfl ?_
                case ones => simp [Value.oneCell']
                case c63 => have := HN2.out; unfold maxLen; omega
                case cby => have := HN2.out; omega
                intro gs cgs x3 hown hgrow _ _
                have HZq := hide (HZ.out.str u rfl hown hgrow)
                refine hK1.out _ _ (fun _ => pin_mem HZq.out.s) ?_
                clear HZ hK1 hown hgrow; have HZ := HZq; clear HZq
                refine wpT_fork ?_ ?_
                · refine wpT_step rfl ?_
                  intro K1 hK1
                  go_wp2_with fail
                  refine (clone_pos _ x3 (own_belw HX.out.s.op HZ.out.b) HN1.out HN2.out).mono ?_
                  rintro e x4 ⟨v', rfl, hox, hbx⟩
                  have HZq := hide (HZ.out.cloneP hox hbx)
                  obtain ⟨Acp, ccp, rfl⟩ := own_slice hox
                  clear hox hbx
                  (try go_wp2_with fail)
                  refine hK1.out _ _ (fun _ => pin_mem HZq.out.s) ?_
                  clear HZ hK1; have HZ := HZq; clear HZq
                  refine wpT_step rfl ?_
                  intro K1 hK1
                  go_wp2_with fail
                  have HZq := hide (HZ.out.alloc (Obj.cells #[.int .i64 u.l, .int .i64 u.c] 24))
                  have HP := hide (heap_new x4 (Obj.cells #[.int .i64 u.l, .int .i64 u.c] 24))
                  refine hK1.out _ _ (fun _ => pin_mem HZq.out.s) ?_
                  clear HZ hK1; have HZ := HZq; clear HZq
                  generalize hb_bkp : x4.heap.size = bkp at *
                  generalize x4.alloc (Obj.cells #[.int .i64 u.l, .int .i64 u.c] 24) = x5 at *
                  clear hb_bkp
                  refine wpT_step rfl ?_
                  intro K1 hK1
                  refine wp_append_lies _ (.tmp 45) (.tmp 51) 42 rfl wr.heap.size 24 qi _ 2 16 Try.underlying42 qz0 qz qs qb rfl (by decide) _ _ _ rfl HZ.out.op ⟨bkp, 0, none⟩ 1 1 [.int .i64 u.l, .int .i64 u.c] rfl rfl (row_at HP.out) ?ones (by omega) ?c63 ?cby HZ.out.b.size _ rfl ?_
                  case ones => simp [Value.oneCell']
                  case c63 => have := HN2.out; unfold maxLen; omega
                  case cby => have := HN2.out; omega
                  intro gp2 cgp x6 hown hgrow _ _
                  have HZq := hide (HZ.out.pos u rfl hown hgrow)
                  refine hK1.out _ _ (fun _ => pin_mem HZq.out.s) ?_
                  clear HZ hK1 hown hgrow; have HZ := HZq; clear HZq
                  refine wpT_step rfl ?_
                  intro K1 hK1
                  go_wp2_with fail
                  refine hK1.out _ _ (fun _ => pin_mem HZ.out.s) ?_
                  clear hK1
                  refine wpT_step rfl ?_
                  intro K1 hK1
                  go_wp2_with fail
                  have HZ8 := hide (HZ.out.alloc (NodeC (.slice (some ⟨gs, 0, none⟩) ((wordsT (t :: ts)).length + 1) cgs) (.slice (some ⟨gp2, 0, none⟩) ((wordsT (t :: ts)).length + 1) cgp) false (.slice none 0 0)))
                  have HN8 := hide (heap_new x6 (NodeC (.slice (some ⟨gs, 0, none⟩) ((wordsT (t :: ts)).length + 1) cgs) (.slice (some ⟨gp2, 0, none⟩) ((wordsT (t :: ts)).length + 1) cgp) false (.slice none 0 0)))
                  refine hK1.out _ _ (fun _ => pin_mem HZ8.out.s) ?_
                  clear hK1
                  refine wpT_step rfl ?_
                  intro K1 hK1
                  refine wp_append_lies _ (.tmp 36) (.tmp 54) 36 rfl w.heap.size 44 ni _ 4 80 Try.underlying36 nz0 nz ns nb rfl (by decide) _ _ _ rfl (own_belw HX.out.s.al.own HZ8.out.b) ⟨x6.heap.size, 0, none⟩ 1 1 [.slice (some ⟨gs, 0, none⟩) ((wordsT (t :: ts)).length + 1) cgs, .slice (some ⟨gp2, 0, none⟩) ((wordsT (t :: ts)).length + 1) cgp, .bool false, .slice none 0 0] rfl rfl (row_at HN8.out) ?ones (by omega) ?c63 ?cby ?cbase _ rfl ?_
                  case ones => simp [Value.oneCell']
                  case c63 => have := HLL.out; unfold maxLen; omega
                  case cby => have := HLL.out; omega
                  case cbase => exact Nat.le_trans HX.out.s.o.size HZ8.out.b.size
                  intro gn cgn y hown hgrow hkk _
                  obtain ⟨B', hSI, hvb⟩ := HX.out.leaf hp HB68.out HVB.out HZ.out.b HZ.out.ow HZ.out.op hown hgrow (hkk.elim (fun h => .inl h.symm) (fun h => .inr (by rw [h]; simp [Value.ownBlock])))
                  have HSI := hide hSI
                  have HVB2 := hide hvb
                  refine hK1.out _ _ (fun h => by cases h) ?_
                  clear hK1 hown hgrow hkk hSI hvb
                  refine wpT_step rfl ?_
                  intro K1 hK1
                  go_wp2_with fail
                  refine hK1.out _ _ (fun h => by cases h) ?_
                  clear hK1
                  refine wpT_done ?_
                  clear HZ HZ8 HN8 HS0 HDS HX HVB k0 k1 k2 c0 c1
                  go_wp2_with fail
                  go_roundw
                  case rel => exact ⟨i + 1, _, _, by go_num, by omega, by rw [HLF.out]; exact HSI.out, HVB2.out⟩
                  case measure => simp [intOf]; omega
                · refine wpT_step rfl ?_
                  intro K1 hK1
                  go_wp2_with fail
                  have HZq := hide (HZ.out.alloc (Obj.cells #[.int .i64 u.l, .int .i64 u.c] 24))
                  have HP := hide (heap_new x3 (Obj.cells #[.int .i64 u.l, .int .i64 u.c] 24))
                  refine hK1.out _ _ (fun _ => pin_mem HZq.out.s) ?_
                  clear HZ hK1; have HZ := HZq; clear HZq
                  generalize hb_bkp : x3.heap.size = bkp at *
                  generalize x3.alloc (Obj.cells #[.int .i64 u.l, .int .i64 u.c] 24) = x4 at *
                  clear hb_bkp
                  refine wpT_step rfl ?_
                  intro K1 hK1
                  go_wp2_with fail
                  refine (clone_pos _ x4 (own_belw HX.out.s.op HZ.out.b) HN1.out HN2.out).mono ?_
                  rintro e x5 ⟨v', rfl, hox, hbx⟩
                  have HZq := hide (HZ.out.cloneP hox hbx)
                  have HPq := hide ((hbx.block _ (lt_heap HP.out)).trans HP.out); clear HP; have HP := HPq; clear HPq
                  obtain ⟨Acp, ccp, rfl⟩ := own_slice hox
                  clear hox hbx
                  (try go_wp2_with fail)
                  refine hK1.out _ _ (fun _ => pin_mem HZq.out.s) ?_
                  clear HZ hK1; have HZ := HZq; clear HZq
                  refine wpT_step rfl ?_
                  intro K1 hK1
                  refine wp_append_lies _ (.tmp 45) (.tmp 51) 42 rfl wr.heap.size 24 qi _ 2 16 Try.underlying42 qz0 qz qs qb rfl (by decide) _ _ _ rfl HZ.out.op ⟨bkp, 0, none⟩ 1 1 [.int .i64 u.l, .int .i64 u.c] rfl rfl (row_at HP.out) ?ones (by omega) ?c63 ?cby HZ.out.b.size _ rfl ?_
                  case ones => simp [Value.oneCell']
                  case c63 => have := HN2.out; unfold maxLen; omega
                  case cby => have := HN2.out; omega
                  intro gp2 cgp x6 hown hgrow _ _
                  have HZq := hide (HZ.out.pos u rfl hown hgrow)
                  refine hK1.out _ _ (fun _ => pin_mem HZq.out.s) ?_
                  clear HZ hK1 hown hgrow; have HZ := HZq; clear HZq
                  refine wpT_step rfl ?_
                  intro K1 hK1
                  go_wp2_with fail
                  refine hK1.out _ _ (fun _ => pin_mem HZ.out.s) ?_
                  clear hK1
                  refine wpT_step rfl ?_
                  intro K1 hK1
                  go_wp2_with fail
                  have HZ8 := hide (HZ.out.alloc (NodeC (.slice (some ⟨gs, 0, none⟩) ((wordsT (t :: ts)).length + 1) cgs) (.slice (some ⟨gp2, 0, none⟩) ((wordsT (t :: ts)).length + 1) cgp) false (.slice none 0 0)))
                  have HN8 := hide (heap_new x6 (NodeC (.slice (some ⟨gs, 0, none⟩) ((wordsT (t :: ts)).length + 1) cgs) (.slice (some ⟨gp2, 0, none⟩) ((wordsT (t :: ts)).length + 1) cgp) false (.slice none 0 0)))
                  refine hK1.out _ _ (fun _ => pin_mem HZ8.out.s) ?_
                  clear hK1
                  refine wpT_step rfl ?_
                  intro K1 hK1
                  refine wp_append_lies _ (.tmp 36) (.tmp 54) 36 rfl w.heap.size 44 ni _ 4 80 Try.underlying36 nz0 nz ns nb rfl (by decide) _ _ _ rfl (own_belw HX.out.s.al.own HZ8.out.b) ⟨x6.heap.size, 0, none⟩ 1 1 [.slice (some ⟨gs, 0, none⟩) ((wordsT (t :: ts)).length + 1) cgs, .slice (some ⟨gp2, 0, none⟩) ((wordsT (t :: ts)).length + 1) cgp, .bool false, .slice none 0 0] rfl rfl (row_at HN8.out) ?ones (by omega) ?c63 ?cby ?cbase _ rfl ?_
                  case ones => simp [Value.oneCell']
                  case c63 => have := HLL.out; unfold maxLen; omega
                  case cby => have := HLL.out; omega
                  case cbase => exact Nat.le_trans HX.out.s.o.size HZ8.out.b.size
                  intro gn cgn y hown hgrow hkk _
                  obtain ⟨B', hSI, hvb⟩ := HX.out.leaf hp HB68.out HVB.out HZ.out.b HZ.out.ow HZ.out.op hown hgrow (hkk.elim (fun h => .inl h.symm) (fun h => .inr (by rw [h]; simp [Value.ownBlock])))
                  have HSI := hide hSI
                  have HVB2 := hide hvb
                  refine hK1.out _ _ (fun h => by cases h) ?_
                  clear hK1 hown hgrow hkk hSI hvb
                  refine wpT_step rfl ?_
                  intro K1 hK1
                  go_wp2_with fail
                  refine hK1.out _ _ (fun h => by cases h) ?_
                  clear hK1
                  refine wpT_done ?_
                  clear HZ HZ8 HN8 HS0 HDS HX HVB k0 k1 k2 c0 c1
                  go_wp2_with fail
                  go_roundw
                  case rel => exact ⟨i + 1, _, _, by go_num, by omega, by rw [HLF.out]; exact HSI.out, HVB2.out⟩
                  case measure => simp [intOf]; omega
              · refine wpT_step rfl ?_
                intro K1 hK1
                go_wp2_with fail
                have HZq := hide (HZ.out.alloc (Obj.cells #[.int .i64 u.l, .int .i64 u.c] 24))
                have HSq := hide (heap_old (p := (Obj.cells #[.int .i64 u.l, .int .i64 u.c] 24)) HS.out); clear HS; have HS := HSq; clear HSq
                have HP := hide (heap_new x2 (Obj.cells #[.int .i64 u.l, .int .i64 u.c] 24))
                refine hK1.out _ _ (fun _ => pin_mem HZq.out.s) ?_
                clear HZ hK1; have HZ := HZq; clear HZq
                generalize hb_bkp : x2.heap.size = bkp at *
                generalize x2.alloc (Obj.cells #[.int .i64 u.l, .int .i64 u.c] 24) = x3 at *
                clear hb_bkp
                refine wpT_step rfl ?_
                intro K1 hK1
                refine wp_append_lies _ (.tmp 39) (.tmp 41) 41 rfl wr.heap.size 9 si _ 1 16 Try.underlying41 sz0 sz ss sb rfl (by decide) _ _ _ rfl HZ.out.ow ⟨bks, 0, none⟩ 1 1 [.string u.b] rfl rfl (row_at HS.out) ?ones (by omega) ?c63 ?cby HZ.out.b.size _ rfl ?_
                case ones => simp [Value.oneCell']
                case c63 => have := HN2.out; unfold maxLen; omega
                case cby => have := HN2.out; omega
                intro gs cgs x4 hown hgrow _ _
                have HZq := hide (HZ.out.str u rfl hown hgrow)
                have HPq := hide (heap_grown HP.out hgrow (own_ne_row HZ.out.ow HP.out (by decide))); clear HP; have HP := HPq; clear HPq
                refine hK1.out _ _ (fun _ => pin_mem HZq.out.s) ?_
                clear HZ hK1 hown hgrow; have HZ := HZq; clear HZq
                refine wpT_step rfl ?_
                intro K1 hK1
                go_wp2_with fail
                refine (clone_pos _ x4 (own_belw HX.out.s.op HZ.out.b) HN1.out HN2.out).mono ?_
                rintro e x5 ⟨v', rfl, hox, hbx⟩
                have HZq := hide (HZ.out.cloneP hox hbx)
                have HPq := hide ((hbx.block _ (lt_heap HP.out)).trans HP.out); clear HP; have HP := HPq; clear HPq
                obtain ⟨Acp, ccp, rfl⟩ := own_slice hox
                clear hox hbx
                (try go_wp2_with fail)
                refine hK1.out _ _ (fun _ => pin_mem HZq.out.s) ?_
                clear HZ hK1; have HZ := HZq; clear HZq
                refine wpT_step rfl ?_
                intro K1 hK1
                refine wp_append_lies _ (.tmp 45) (.tmp 51) 42 rfl wr.heap.size 24 qi _ 2 16 Try.underlying42 qz0 qz qs qb rfl (by decide) _ _ _ rfl HZ.out.op ⟨bkp, 0, none⟩ 1 1 [.int .i64 u.l, .int .i64 u.c] rfl rfl (row_at HP.out) ?ones (by omega) ?c63 ?cby HZ.out.b.size _ rfl ?_
                case ones => simp [Value.oneCell']
                case c63 => have := HN2.out; unfold maxLen; omega
                case cby => have := HN2.out; omega
                intro gp2 cgp x6 hown hgrow _ _
                have HZq := hide (HZ.out.pos u rfl hown hgrow)
                refine hK1.out _ _ (fun _ => pin_mem HZq.out.s) ?_
                clear HZ hK1 hown hgrow; have HZ := HZq; clear HZq
                refine wpT_step rfl ?_
                intro K1 hK1
                go_wp2_with fail
                refine hK1.out _ _ (fun _ => pin_mem HZ.out.s) ?_
                clear hK1
                refine wpT_step rfl ?_
                intro K1 hK1
                go_wp2_with fail
                have HZ8 := hide (HZ.out.alloc (NodeC (.slice (some ⟨gs, 0, none⟩) ((wordsT (t :: ts)).length + 1) cgs) (.slice (some ⟨gp2, 0, none⟩) ((wordsT (t :: ts)).length + 1) cgp) false (.slice none 0 0)))
                have HN8 := hide (heap_new x6 (NodeC (.slice (some ⟨gs, 0, none⟩) ((wordsT (t :: ts)).length + 1) cgs) (.slice (some ⟨gp2, 0, none⟩) ((wordsT (t :: ts)).length + 1) cgp) false (.slice none 0 0)))
                refine hK1.out _ _ (fun _ => pin_mem HZ8.out.s) ?_
                clear hK1
                refine wpT_step rfl ?_
                intro K1 hK1
                refine wp_append_lies _ (.tmp 36) (.tmp 54) 36 rfl w.heap.size 44 ni _ 4 80 Try.underlying36 nz0 nz ns nb rfl (by decide) _ _ _ rfl (own_belw HX.out.s.al.own HZ8.out.b) ⟨x6.heap.size, 0, none⟩ 1 1 [.slice (some ⟨gs, 0, none⟩) ((wordsT (t :: ts)).length + 1) cgs, .slice (some ⟨gp2, 0, none⟩) ((wordsT (t :: ts)).length + 1) cgp, .bool false, .slice none 0 0] rfl rfl (row_at HN8.out) ?ones (by omega) ?c63 ?cby ?cbase _ rfl ?_
                case ones => simp [Value.oneCell']
                case c63 => have := HLL.out; unfold maxLen; omega
                case cby => have := HLL.out; omega
                case cbase => exact Nat.le_trans HX.out.s.o.size HZ8.out.b.size
                intro gn cgn y hown hgrow hkk _
                obtain ⟨B', hSI, hvb⟩ := HX.out.leaf hp HB68.out HVB.out HZ.out.b HZ.out.ow HZ.out.op hown hgrow (hkk.elim (fun h => .inl h.symm) (fun h => .inr (by rw [h]; simp [Value.ownBlock])))
                have HSI := hide hSI
                have HVB2 := hide hvb
                refine hK1.out _ _ (fun h => by cases h) ?_
                clear hK1 hown hgrow hkk hSI hvb
                refine wpT_step rfl ?_
                intro K1 hK1
                go_wp2_with fail
                refine hK1.out _ _ (fun h => by cases h) ?_
                clear hK1
                refine wpT_done ?_
                clear HZ HZ8 HN8 HS0 HDS HX HVB k0 k1 k2 c0 c1
                go_wp2_with fail
                go_roundw
                case rel => exact ⟨i + 1, _, _, by go_num, by omega, by rw [HLF.out]; exact HSI.out, HVB2.out⟩
                case measure => simp [intOf]; omega
            · refine wpT_step rfl ?_
              intro K1 hK1
              go_wp2_with fail
              have HZq := hide (HZ.out.alloc (Obj.cells #[.int .i64 u.l, .int .i64 u.c] 24))
              have HSq := hide (heap_old (p := (Obj.cells #[.int .i64 u.l, .int .i64 u.c] 24)) HS.out); clear HS; have HS := HSq; clear HSq
              have HP := hide (heap_new x1 (Obj.cells #[.int .i64 u.l, .int .i64 u.c] 24))
              refine hK1.out _ _ (fun _ => pin_mem HZq.out.s) ?_
              clear HZ hK1; have HZ := HZq; clear HZq
              generalize hb_bkp : x1.heap.size = bkp at *
              generalize x1.alloc (Obj.cells #[.int .i64 u.l, .int .i64 u.c] 24) = x2 at *
              clear hb_bkp
              refine wpT_step rfl ?_
              intro K1 hK1
              go_wp2_with fail
              refine (clone_words _ x2 (own_belw HX.out.s.ow HZ.out.b) HN1.out HN2.out).mono ?_
              rintro e x3 ⟨v', rfl, hox, hbx⟩
              have HZq := hide (HZ.out.cloneS hox hbx)
              have HSq := hide ((hbx.block _ (lt_heap HS.out)).trans HS.out); clear HS; have HS := HSq; clear HSq
              have HPq := hide ((hbx.block _ (lt_heap HP.out)).trans HP.out); clear HP; have HP := HPq; clear HPq
              obtain ⟨Acw, ccw, rfl⟩ := own_slice hox
              clear hox hbx
              (try go_wp2_with fail)
              refine hK1.out _ _ (fun _ => pin_mem HZq.out.s) ?_
              clear HZ hK1; have HZ := HZq; clear HZq
              refine wpT_step rfl ?_
              intro K1 hK1
              refine wp_append_lies _ (.tmp 39) (.tmp 41) 41 rfl wr.heap.size 9 si _ 1 16 Try.underlying41 sz0 sz ss sb rfl (by decide) _ _ _ rfl HZ.out.ow ⟨bks, 0, none⟩ 1 1 [.string u.b] rfl rfl (row_at HS.out) ?ones (by omega) ?c63 ?cby HZ.out.b.size _ rfl ?_
              case ones => simp [Value.oneCell']
              case c63 => have := HN2.out; unfold maxLen; omega
              case cby => have := HN2.out; omega
              intro gs cgs x4 hown hgrow _ _
              have HZq := hide (HZ.out.str u rfl hown hgrow)
              have HPq := hide (heap_grown HP.out hgrow (own_ne_row HZ.out.ow HP.out (by decide))); clear HP; have HP := HPq; clear HPq
              refine hK1.out _ _ (fun _ => pin_mem HZq.out.s) ?_
              clear HZ hK1 hown hgrow; have HZ := HZq; clear HZq
              refine wpT_step rfl ?_
              intro K1 hK1
              go_wp2_with fail
              refine (clone_pos _ x4 (own_belw HX.out.s.op HZ.out.b) HN1.out HN2.out).mono ?_
              rintro e x5 ⟨v', rfl, hox, hbx⟩
              have HZq := hide (HZ.out.cloneP hox hbx)
              have HPq := hide ((hbx.block _ (lt_heap HP.out)).trans HP.out); clear HP; have HP := HPq; clear HPq
              obtain ⟨Acp, ccp, rfl⟩ := own_slice hox
              clear hox hbx
              (try go_wp2_with fail)
              refine hK1.out _ _ (fun _ => pin_mem HZq.out.s) ?_
              clear HZ hK1; have HZ := HZq; clear HZq
              refine wpT_step rfl ?_
              intro K1 hK1
              refine wp_append_lies _ (.tmp 45) (.tmp 51) 42 rfl wr.heap.size 24 qi _ 2 16 Try.underlying42 qz0 qz qs qb rfl (by decide) _ _ _ rfl HZ.out.op ⟨bkp, 0, none⟩ 1 1 [.int .i64 u.l, .int .i64 u.c] rfl rfl (row_at HP.out) ?ones (by omega) ?c63 ?cby HZ.out.b.size _ rfl ?_
              case ones => simp [Value.oneCell']
              case c63 => have := HN2.out; unfold maxLen; omega
              case cby => have := HN2.out; omega
              intro gp2 cgp x6 hown hgrow _ _
              have HZq := hide (HZ.out.pos u rfl hown hgrow)
              refine hK1.out _ _ (fun _ => pin_mem HZq.out.s) ?_
              clear HZ hK1 hown hgrow; have HZ := HZq; clear HZq
              refine wpT_step rfl ?_
              intro K1 hK1
              go_wp2_with fail
              refine hK1.out _ _ (fun _ => pin_mem HZ.out.s) ?_
              clear hK1
              refine wpT_step rfl ?_
              intro K1 hK1
              go_wp2_with fail
              have HZ8 := hide (HZ.out.alloc (NodeC (.slice (some ⟨gs, 0, none⟩) ((wordsT (t :: ts)).length + 1) cgs) (.slice (some ⟨gp2, 0, none⟩) ((wordsT (t :: ts)).length + 1) cgp) false (.slice none 0 0)))
              have HN8 := hide (heap_new x6 (NodeC (.slice (some ⟨gs, 0, none⟩) ((wordsT (t :: ts)).length + 1) cgs) (.slice (some ⟨gp2, 0, none⟩) ((wordsT (t :: ts)).length + 1) cgp) false (.slice none 0 0)))
              refine hK1.out _ _ (fun _ => pin_mem HZ8.out.s) ?_
              clear hK1
              refine wpT_step rfl ?_
              intro K1 hK1
              refine wp_append_lies _ (.tmp 36) (.tmp 54) 36 rfl w.heap.size 44 ni _ 4 80 Try.underlying36 nz0 nz ns nb rfl (by decide) _ _ _ rfl (own_belw HX.out.s.al.own HZ8.out.b) ⟨x6.heap.size, 0, none⟩ 1 1 [.slice (some ⟨gs, 0, none⟩) ((wordsT (t :: ts)).length + 1) cgs, .slice (some ⟨gp2, 0, none⟩) ((wordsT (t :: ts)).length + 1) cgp, .bool false, .slice none 0 0] rfl rfl (row_at HN8.out) ?ones (by omega) ?c63 ?cby ?cbase _ rfl ?_
              case ones => simp [Value.oneCell']
              case c63 => have := HLL.out; unfold maxLen; omega
              case cby => have := HLL.out; omega
              case cbase => exact Nat.le_trans HX.out.s.o.size HZ8.out.b.size
              intro gn cgn y hown hgrow hkk _
              obtain ⟨B', hSI, hvb⟩ := HX.out.leaf hp HB68.out HVB.out HZ.out.b HZ.out.ow HZ.out.op hown hgrow (hkk.elim (fun h => .inl h.symm) (fun h => .inr (by rw [h]; simp [Value.ownBlock])))
              have HSI := hide hSI
              have HVB2 := hide hvb
              refine hK1.out _ _ (fun h => by cases h) ?_
              clear hK1 hown hgrow hkk hSI hvb
              refine wpT_step rfl ?_
              intro K1 hK1
              go_wp2_with fail
              refine hK1.out _ _ (fun h => by cases h) ?_
              clear hK1
              refine wpT_done ?_
              clear HZ HZ8 HN8 HS0 HDS HX HVB k0 k1 k2 c0 c1
              go_wp2_with fail
              go_roundw
              case rel => exact ⟨i + 1, _, _, by go_num, by omega, by rw [HLF.out]; exact HSI.out, HVB2.out⟩
              case measure => simp [intOf]; omega
          · refine wpT_step rfl ?_
            intro K1 hK1
            go_wp2_with fail
            have HZq := hide (HZ.out.alloc (Obj.cells #[.int .i64 u.l, .int .i64 u.c] 24))
            have HP := hide (heap_new x0 (Obj.cells #[.int .i64 u.l, .int .i64 u.c] 24))
            refine hK1.out _ _ (fun _ => pin_mem HZq.out.s) ?_
            clear HZ hK1; have HZ := HZq; clear HZq
            generalize hb_bkp : x0.heap.size = bkp at *
            generalize x0.alloc (Obj.cells #[.int .i64 u.l, .int .i64 u.c] 24) = x1 at *
            clear hb_bkp
            refine wpT_fork ?_ ?_
            · refine wpT_step rfl ?_
              intro K1 hK1
              go_wp2_with fail
              refine (clone_words _ x1 (own_belw HX.out.s.ow HZ.out.b) HN1.out HN2.out).mono ?_
              rintro e x2 ⟨v', rfl, hox, hbx⟩
              have HZq := hide (HZ.out.cloneS hox hbx)
              have HPq := hide ((hbx.block _ (lt_heap HP.out)).trans HP.out); clear HP; have HP := HPq; clear HPq
              obtain ⟨Acw, ccw, rfl⟩ := own_slice hox
              clear hox hbx
              (try go_wp2_with fail)
              refine hK1.out _ _ (fun _ => pin_mem HZq.out.s) ?_
              clear HZ hK1; have HZ := HZq; clear HZq
              refine wpT_step rfl ?_
              intro K1 hK1
              go_wp2_with fail
              have HZq := hide (HZ.out.alloc (Obj.cells #[.string u.b] 9))
              have HPq := hide (heap_old (p := (Obj.cells #[.string u.b] 9)) HP.out); clear HP; have HP := HPq; clear HPq
              have HS := hide (heap_new x2 (Obj.cells #[.string u.b] 9))
              refine hK1.out _ _ (fun _ => pin_mem HZq.out.s) ?_
              clear HZ hK1; have HZ := HZq; clear HZq
              generalize hb_bks : x2.heap.size = bks at *
              generalize x2.alloc (Obj.cells #[.string u.b] 9) = x3 at *
              clear hb_bks
              refine wpT_step rfl ?_
              intro K1 hK1
              refine wp_append_lies _ (.tmp 39) (.tmp 41) 41 rfl wr.heap.size 9 si _ 1 16 Try.underlying41 sz0 sz ss sb rfl (by decide) _ _ _ rfl HZ.out.ow ⟨bks, 0, none⟩ 1 1 [.string u.b] rfl rfl (row_at HS.out) ?ones (by omega) ?c63 ?cby HZ.out.b.size _ rfl ?_
              case ones => simp [Value.oneCell']
              case c63 => have := HN2.out; unfold maxLen; omega
              case cby => have := HN2.out; omega
              intro gs cgs x4 hown hgrow _ _
              have HZq := hide (HZ.out.str u rfl hown hgrow)
              have HPq := hide (heap_grown HP.out hgrow (own_ne_row HZ.out.ow HP.out (by decide))); clear HP; have HP := HPq; clear HPq
              refine hK1.out _ _ (fun _ => pin_mem HZq.out.s) ?_
              clear HZ hK1 hown hgrow; have HZ := HZq; clear HZq
              refine wpT_step rfl ?_
              intro K1 hK1
              go_wp2_with fail
              refine (clone_pos _ x4 (own_belw HX.out.s.op HZ.out.b) HN1.out HN2.out).mono ?_
              rintro e x5 ⟨v', rfl, hox, hbx⟩
              have HZq := hide (HZ.out.cloneP hox hbx)
              have HPq := hide ((hbx.block _ (lt_heap HP.out)).trans HP.out); clear HP; have HP := HPq; clear HPq
              obtain ⟨Acp, ccp, rfl⟩ := own_slice hox
              clear hox hbx
              (try go_wp2_with fail)
              refine hK1.out _ _ (fun _ => pin_mem HZq.out.s) ?_
              clear HZ hK1; have HZ := HZq; clear HZq
              refine wpT_step rfl ?_
              intro K1 hK1
              refine wp_append_lies _ (.tmp 45) (.tmp 51) 42 rfl wr.heap.size 24 qi _ 2 16 Try.underlying42 qz0 qz qs qb rfl (by decide) _ _ _ rfl HZ.out.op ⟨bkp, 0, none⟩ 1 1 [.int .i64 u.l, .int .i64 u.c] rfl rfl (row_at HP.out) ?ones (by omega) ?c63 ?cby HZ.out.b.size _ rfl ?_
              case ones => simp [Value.oneCell']
              case c63 => have := HN2.out; unfold maxLen; omega
              case cby => have := HN2.out; omega
              intro gp2 cgp x6 hown hgrow _ _
              have HZq := hide (HZ.out.pos u rfl hown hgrow)
              refine hK1.out _ _ (fun _ => pin_mem HZq.out.s) ?_
              clear HZ hK1 hown hgrow; have HZ := HZq; clear HZq
              refine wpT_step rfl ?_
              intro K1 hK1
              go_wp2_with fail
              refine hK1.out _ _ (fun _ => pin_mem HZ.out.s) ?_
              clear hK1
              refine wpT_step rfl ?_
              intro K1 hK1
              go_wp2_with fail
              have HZ8 := hide (HZ.out.alloc (NodeC (.slice (some ⟨gs, 0, none⟩) ((wordsT (t :: ts)).length + 1) cgs) (.slice (some ⟨gp2, 0, none⟩) ((wordsT (t :: ts)).length + 1) cgp) false (.slice none 0 0)))
              have HN8 := hide (heap_new x6 (NodeC (.slice (some ⟨gs, 0, none⟩) ((wordsT (t :: ts)).length + 1) cgs) (.slice (some ⟨gp2, 0, none⟩) ((wordsT (t :: ts)).length + 1) cgp) false (.slice none 0 0)))
              refine hK1.out _ _ (fun _ => pin_mem HZ8.out.s) ?_
              clear hK1
              refine wpT_step rfl ?_
              intro K1 hK1
              refine wp_append_lies _ (.tmp 36) (.tmp 54) 36 rfl w.heap.size 44 ni _ 4 80 Try.underlying36 nz0 nz ns nb rfl (by decide) _ _ _ rfl (own_belw HX.out.s.al.own HZ8.out.b) ⟨x6.heap.size, 0, none⟩ 1 1 [.slice (some ⟨gs, 0, none⟩) ((wordsT (t :: ts)).length + 1) cgs, .slice (some ⟨gp2, 0, none⟩) ((wordsT (t :: ts)).length + 1) cgp, .bool false, .slice none 0 0] rfl rfl (row_at HN8.out) ?ones (by omega) ?c63 ?cby ?cbase _ rfl ?_
              case ones => simp [Value.oneCell']
              case c63 => have := HLL.out; unfold maxLen; omega
              case cby => have := HLL.out; omega
              case cbase => exact Nat.le_trans HX.out.s.o.size HZ8.out.b.size
              intro gn cgn y hown hgrow hkk _
              obtain ⟨B', hSI, hvb⟩ := HX.out.leaf hp HB68.out HVB.out HZ.out.b HZ.out.ow HZ.out.op hown hgrow (hkk.elim (fun h => .inl h.symm) (fun h => .inr (by rw [h]; simp [Value.ownBlock])))
              have HSI := hide hSI
              have HVB2 := hide hvb
              refine hK1.out _ _ (fun h => by cases h) ?_
              clear hK1 hown hgrow hkk hSI hvb
              refine wpT_step rfl ?_
              intro K1 hK1
              go_wp2_with fail
              refine hK1.out _ _ (fun h => by cases h) ?_
              clear hK1
              refine wpT_done ?_
              clear HZ HZ8 HN8 HS0 HDS HX HVB k0 k1 k2 c0 c1
              go_wp2_with fail
              go_roundw
              case rel => exact ⟨i + 1, _, _, by go_num, by omega, by rw [HLF.out]; exact HSI.out, HVB2.out⟩
              case measure => simp [intOf]; omega
            · refine wpT_step rfl ?_
              intro K1 hK1
              go_wp2_with fail
              have HZq := hide (HZ.out.alloc (Obj.cells #[.string u.b] 9))
              have HPq := hide (heap_old (p := (Obj.cells #[.string u.b] 9)) HP.out); clear HP; have HP := HPq; clear HPq
              have HS := hide (heap_new x1 (Obj.cells #[.string u.b] 9))
              refine hK1.out _ _ (fun _ => pin_mem HZq.out.s) ?_
              clear HZ hK1; have HZ := HZq; clear HZq
              generalize hb_bks : x1.heap.size = bks at *
              generalize x1.alloc (Obj.cells #[.string u.b] 9) = x2 at *
              clear hb_bks
              refine wpT_step rfl ?_
              intro K1 hK1
              go_wp2_with fail
              refine (clone_words _ x2 (own_belw HX.out.s.ow HZ.out.b) HN1.out HN2.out).mono ?_
              rintro e x3 ⟨v', rfl, hox, hbx⟩
              have HZq := hide (HZ.out.cloneS hox hbx)
              have HSq := hide ((hbx.block _ (lt_heap HS.out)).trans HS.out); clear HS; have HS := HSq; clear HSq
              have HPq := hide ((hbx.block _ (lt_heap HP.out)).trans HP.out); clear HP; have HP := HPq; clear HPq
              obtain ⟨Acw, ccw, rfl⟩ := own_slice hox
              clear hox hbx
              (try go_wp2_with fail)
              refine hK1.out _ _ (fun _ => pin_mem HZq.out.s) ?_
              clear HZ hK1; have HZ := HZq; clear HZq
              refine wpT_step rfl ?_
              intro K1 hK1
              refine wp_append_lies _ (.tmp 39) (.tmp 41) 41 rfl wr.heap.size 9 si _ 1 16 Try.underlying41 sz0 sz ss sb rfl (by decide) _ _ _ rfl HZ.out.ow ⟨bks, 0, none⟩ 1 1 [.string u.b] rfl rfl (row_at HS.out) ?ones (by omega) ?c63 ?cby HZ.out.b.size _ rfl ?_
              case ones => simp [Value.oneCell']
              case c63 => have := HN2.out; unfold maxLen; omega
              case cby => have := HN2.out; omega
              intro gs cgs x4 hown hgrow _ _
              have HZq := hide (HZ.out.str u rfl hown hgrow)
              have HPq := hide (heap_grown HP.out hgrow (own_ne_row HZ.out.ow HP.out (by decide))); clear HP; have HP := HPq; clear HPq
              refine hK1.out _ _ (fun _ => pin_mem HZq.out.s) ?_
              clear HZ hK1 hown hgrow; have HZ := HZq; clear HZq
              refine wpT_step rfl ?_
              intro K1 hK1
              go_wp2_with fail
              refine (clone_pos _ x4 (own_belw HX.out.s.op HZ.out.b) HN1.out HN2.out).mono ?_
              rintro e x5 ⟨v', rfl, hox, hbx⟩
              have HZq := hide (HZ.out.cloneP hox hbx)
              have HPq := hide ((hbx.block _ (lt_heap HP.out)).trans HP.out); clear HP; have HP := HPq; clear HPq
              obtain ⟨Acp, ccp, rfl⟩ := own_slice hox
              clear hox hbx
              (try go_wp2_with fail)
              refine hK1.out _ _ (fun _ => pin_mem HZq.out.s) ?_
              clear HZ hK1; have HZ := HZq; clear HZq
              refine wpT_step rfl ?_
              intro K1 hK1
              refine wp_append_lies _ (.tmp 45) (.tmp 51) 42 rfl wr.heap.size 24 qi _ 2 16 Try.underlying42 qz0 qz qs qb rfl (by decide) _ _ _ rfl HZ.out.op ⟨bkp, 0, none⟩ 1 1 [.int .i64 u.l, .int .i64 u.c] rfl rfl (row_at HP.out) ?ones (by omega) ?c63 ?cby HZ.out.b.size _ rfl ?_
              case ones => simp [Value.oneCell']
              case c63 => have := HN2.out; unfold maxLen; omega
              case cby => have := HN2.out; omega
              intro gp2 cgp x6 hown hgrow _ _
              have HZq := hide (HZ.out.pos u rfl hown hgrow)
              refine hK1.out _ _ (fun _ => pin_mem HZq.out.s) ?_
              clear HZ hK1 hown hgrow; have HZ := HZq; clear HZq
              refine wpT_step rfl ?_
              intro K1 hK1
              go_wp2_with fail
              refine hK1.out _ _ (fun _ => pin_mem HZ.out.s) ?_
              clear hK1
              refine wpT_step rfl ?_
              intro K1 hK1
              go_wp2_with fail
              have HZ8 := hide (HZ.out.alloc (NodeC (.slice (some ⟨gs, 0, none⟩) ((wordsT (t :: ts)).length + 1) cgs) (.slice (some ⟨gp2, 0, none⟩) ((wordsT (t :: ts)).length + 1) cgp) false (.slice none 0 0)))
              have HN8 := hide (heap_new x6 (NodeC (.slice (some ⟨gs, 0, none⟩) ((wordsT (t :: ts)).length + 1) cgs) (.slice (some ⟨gp2, 0, none⟩) ((wordsT (t :: ts)).length + 1) cgp) false (.slice none 0 0)))
              refine hK1.out _ _ (fun _ => pin_mem HZ8.out.s) ?_
              clear hK1
              refine wpT_step rfl ?_
              intro K1 hK1
              refine wp_append_lies _ (.tmp 36) (.tmp 54) 36 rfl w.heap.size 44 ni _ 4 80 Try.underlying36 nz0 nz ns nb rfl (by decide) _ _ _ rfl (own_belw HX.out.s.al.own HZ8.out.b) ⟨x6.heap.size, 0, none⟩ 1 1 [.slice (some ⟨gs, 0, none⟩) ((wordsT (t :: ts)).length + 1) cgs, .slice (some ⟨gp2, 0, none⟩) ((wordsT (t :: ts)).length + 1) cgp, .bool false, .slice none 0 0] rfl rfl (row_at HN8.out) ?ones (by omega) ?c63 ?cby ?cbase _ rfl ?_
              case ones => simp [Value.oneCell']
              case c63 => have := HLL.out; unfold maxLen; omega
              case cby => have := HLL.out; omega
              case cbase => exact Nat.le_trans HX.out.s.o.size HZ8.out.b.size
              intro gn cgn y hown hgrow hkk _
              obtain ⟨B', hSI, hvb⟩ := HX.out.leaf hp HB68.out HVB.out HZ.out.b HZ.out.ow HZ.out.op hown hgrow (hkk.elim (fun h => .inl h.symm) (fun h => .inr (by rw [h]; simp [Value.ownBlock])))
              have HSI := hide hSI
              have HVB2 := hide hvb
              refine hK1.out _ _ (fun h => by cases h) ?_
              clear hK1 hown hgrow hkk hSI hvb
              refine wpT_step rfl ?_
              intro K1 hK1
              go_wp2_with fail
              refine hK1.out _ _ (fun h => by cases h) ?_
              clear hK1
              refine wpT_done ?_
              clear HZ HZ8 HN8 HS0 HDS HX HVB k0 k1 k2 c0 c1
              go_wp2_with fail
              go_roundw
              case rel => exact ⟨i + 1, _, _, by go_num, by omega, by rw [HLF.out]; exact HSI.out, HVB2.out⟩
              case measure => simp [intOf]; omega
          -- /R10
        · have e : i = m.length := by omega
          have d1 : decide (i < m.length) = false := by simp; omega
          have d1' : decide ((i : Int) < m.length) = false := by simp; omega
          have HB := hide (show SB p w wr w.heap.size w2.heap.size t.pos (wordsT (t :: ts)) (.slice Aw (wordsT (t :: ts)).length cw) (.slice Ap (wordsT (t :: ts)).length cp) (.slice Av (leafs (wordsT (t :: ts)) (m.take i)).len cv) (leafs (wordsT (t :: ts)) m) xs B A6 cap6 (behindT bs) from by have := HX.out.s; rw [e, List.take_length] at this ⊢; exact this)
          have hln : (leafs (wordsT (t :: ts)) (m.take i)).len = m.length := by rw [e, List.take_length, leafs_len]
          rw [hln] at HB ⊢
          have hbl2 := behind_le bs
          have HN3 := hide (next_any p A6 cap6 (behindT bs) 0 0 0 wr HB.out.r (by omega))
          have hst : stmtF (fun o r => listF g (deep + 1) o r) deep t.pos (t :: ts) = (match behindT bs with
              | [] => .err 71 t.pos.1 t.pos.2
              | u :: us => if u.k = 6 ∧ m.length ≠ 0 then tailS (fun o r => listF g (deep + 1) o r) deep t.pos (wordsT (t :: ts)) (leafs (wordsT (t :: ts)) m) us else .err 130 u.l u.c) := by
            unfold stmtF
            rw [HB5.out.1]
            simp only
            rw [if_pos HB5.out.2, hmm]
            cases behindT bs <;> rfl
          have HST := hide hst
          have HMB := hide hbl2
          clear hst hbl2 e hln hi hge
          cases hbe : behindT bs with
          | nil =>
            rw [hbe] at HB HN3 HST
            rw [show kindT [] = 0 from rfl] at HN3
            have HB0 := hide (show stmtF (fun o r => listF g (deep + 1) o r) deep t.pos (t :: ts) = tailS (fun o r => listF g (deep + 1) o r) deep t.pos (wordsT (t :: ts)) (leafs (wordsT (t :: ts)) m) [] from HST.out)
            clear hbe HX
            go_wp2_with fail
            refine HN3.out.mono ?_
            rintro e w9 ⟨rfl, rfl⟩
            go_wp2_with fail
            refine HN3.out.mono ?_
            rintro e w9 ⟨rfl, rfl⟩
            go_wp2_with fail
            go_meet
            case rel => exact ⟨_, _, _, _, _, _, HB.out, Nat.zero_le _, by rw [leafs_len]; exact hml, HB0.out⟩
          | cons u us =>
            rw [hbe] at HB HN3 HST HMB
            rw [show kindT (u :: us) = u.k from rfl] at HN3
            have hus : us.length + 1 ≤ bs.length := by have := HMB.out; simpa using this
            by_cases h6 : u.k = 6 ∧ m.length ≠ 0
            · have ka : (u.k == 6) = true := by rw [h6.1]; decide
              have kl : decide (0 < m.length) = true := by have := h6.2; simp; omega
              have kl' : decide ((0 : Int) < (m.length : Int)) = true := by have := h6.2; simp; omega
              have HB0 := hide (show stmtF (fun o r => listF g (deep + 1) o r) deep t.pos (t :: ts) = tailS (fun o r => listF g (deep + 1) o r) deep t.pos (wordsT (t :: ts)) (leafs (wordsT (t :: ts)) m) us from by rw [HST.out]; simp only; rw [if_pos h6])
              have HOG := hide (off_any p A6 cap6 u us 0 0 0 wr HB.out.r (by omega) HB.out.r.cm)
              clear hbe HX h6 HST
              go_wp2_with fail
              refine HN3.out.mono ?_
              rintro e w9 ⟨rfl, rfl⟩
              go_wp2_with fail
              refine HOG.out.mono ?_
              rintro e w9 ⟨rfl, ho9, A9, hr9⟩
              have HB9 := hide (HB.out.only hp ho9 hr9)
              clear ho9 hr9 HB
              go_wp2_with fail
              go_meet
              case rel => exact ⟨_, _, _, _, _, _, HB9.out, by omega, by rw [leafs_len]; exact hml, HB0.out⟩
            · have HB0 := hide (show stmtF (fun o r => listF g (deep + 1) o r) deep t.pos (t :: ts) = .err 130 u.l u.c from by rw [HST.out]; simp only; rw [if_neg h6])
              have HFL := hide (fail_any p A6 cap6 (u :: us) 130 u.l u.c wr HB.out.r)
              have k0 := HB.out.r.kz u (by simp)
              have kz : (u.k == 0) = false := by simpa using k0
              have kz2 : (u.k != 0) = true := by simpa using k0
              obtain ⟨ad3, rfl, x0, x1, x2, x3⟩ := HB.out.r.t.head
              have hsp3 : ad3.spot = none := World.cell?_spot x0
              obtain ⟨bk3, of3, sp3⟩ := ad3
              cases hsp3
              have y1 := cell_heap (j := 0) HB.out.r.h rfl
              rw [List.length_cons] at y1
              have d9 : ((0 : Int) < ((us.length + 1 : Nat) : Int)) := by omega
              have d9' : ((0 : Int) < (us.length : Int) + 1) := by omega
              have HH6 := hide h6
              clear hbe HX h6 HST k0
              by_cases k6 : u.k = 6
              · have ka : (u.k == 6) = true := by rw [k6]; decide
                have hm0 : m.length = 0 := by
                  rcases Nat.eq_zero_or_pos m.length with h | h
                  · exact h
                  · exact absurd ⟨k6, by omega⟩ HH6.out
                have kl : decide (0 < m.length) = false := decide_eq_false (by omega)
                have kl' : decide ((0 : Int) < (m.length : Int)) = false := decide_eq_false (by omega)
                clear hm0 k6
                go_wp2_with fail
                refine HN3.out.mono ?_
                rintro e w9 ⟨rfl, rfl⟩
                go_wp2_with fail
                refine HN3.out.mono ?_
                rintro e w9 ⟨rfl, rfl⟩
                go_wp2_with fail
                refine HFL.out.mono ?_
                rintro e w9 ⟨rfl, ho, hr⟩
                have HO := hide ho
                have HR := hide hr
                clear ho hr
                go_wp2_with fail
                (try simp only [Exit.inBlock, Exit.then])
                go_ret
                rw [HB0.out]
                exact ⟨only_trans HB.out.o HO.out, by decide, _, _, _, 0, [], _, rfl, ⟨rfl, .inl ⟨rfl, rfl⟩⟩, (fun u hu => by cases hu), by omega, HR.out⟩
              · have ka : (u.k == 6) = false := by simpa using k6
                clear k6
                go_wp2_with fail
                refine HN3.out.mono ?_
                rintro e w9 ⟨rfl, rfl⟩
                go_wp2_with fail
                refine HN3.out.mono ?_
                rintro e w9 ⟨rfl, rfl⟩
                go_wp2_with fail
                refine HFL.out.mono ?_
                rintro e w9 ⟨rfl, ho, hr⟩
                have HO := hide ho
                have HR := hide hr
                clear ho hr
                go_wp2_with fail
                (try simp only [Exit.inBlock, Exit.then])
                go_ret
                rw [HB0.out]
                exact ⟨only_trans HB.out.o HO.out, by decide, _, _, _, 0, [], _, rfl, ⟨rfl, .inl ⟨rfl, rfl⟩⟩, (fun u hu => by cases hu), by omega, HR.out⟩
    · have kb : (kindT (behindT (t :: ts)) == 5) = false := by simpa using k5
      have hq : stmtF (fun o r => listF g (deep + 1) o r) deep t.pos (t :: ts) = tailS (fun o r => listF g (deep + 1) o r) deep t.pos (wordsT (t :: ts)) .nil (behindT (t :: ts)) := by
        unfold stmtF
        cases e : behindT (t :: ts) with
        | nil => rfl
        | cons x r =>
          rw [e] at k5
          simp only
          rw [if_neg (show ¬ x.k = 5 from k5)]
      have hle : (behindT (t :: ts)).length ≤ ts.length := by rw [behindT, if_pos hk]; exact behind_le ts
      have HQ := hide hq
      have HLE := hide hle
      clear hq hle k5
      go_wp2_with fail
      go_meet
      case rel => exact ⟨_, _, _, _, _, _, HSB.out, HLE.out, by simp [Fo.len], HQ.out⟩
  case rest =>
    obtain ⟨all, xs, B, A', cap', ts', hB, hle, hal, hq⟩ := hcut
    obtain ⟨Av, cv, rfl⟩ := own_slice hB.al.own
    have HS := hide hB
    have HQ := hide hq
    have hl' : ts'.length ≤ 100000 := by omega
    have HN2 := hide (next_any p A' cap' ts' 0 0 0 wc hB.r hl')
    have c0 := cell_heap (j := 0) hB.f5 rfl
    have c1 := cell_heap (j := 1) hB.f5 rfl
    have r1 := cell_heap (j := 0) hB.r.h rfl
    clear HN HSB hB hq HH H5 HW q0 q1 q2 q3 r0 d0 d2
    cases ts' with
    | nil =>
      rw [show kindT [] = 0 from rfl] at HN2
      have HFL := hide (fail_any p A' cap' [] 71 t.l t.c wc HS.out.r)
      go_wp2_with fail
      refine HN2.out.mono ?_
      rintro e w5 ⟨rfl, rfl⟩
      go_wp2_with fail
      refine HFL.out.mono ?_
      rintro e w5 ⟨rfl, ho, hr⟩
      have HO := hide ho
      have HR := hide hr
      clear ho hr
      go_wp2_with fail
      (try simp only [Exit.inBlock, Exit.then])
      go_ret
      rw [HQ.out]
      exact ⟨only_trans HS.out.o HO.out, by decide, _, _, _, 0, [], _, rfl, ⟨rfl, .inl ⟨rfl, rfl⟩⟩, (fun u hu => by cases hu), by omega, HR.out⟩
    | cons u us =>
      rw [show kindT (u :: us) = u.k from rfl] at HN2
      simp only [List.length_cons] at hle hl' r1
      obtain ⟨ad2, rfl, q0, q1, q2, q3⟩ := HS.out.r.t.head
      have hsp2 : ad2.spot = none := World.cell?_spot q0
      obtain ⟨bk2, of2, sp2⟩ := ad2
      cases hsp2
      have d0 : ((0 : Int) < ((us.length + 1 : Nat) : Int)) := by omega
      have d2 : ((0 : Int) < (us.length : Int) + 1) := by omega
      have k0 := HS.out.r.kz u (by simp)
      have ka : (u.k == 0) = false := by simpa using k0
      clear k0
      by_cases k4 : u.k = 4
      · have kb : (u.k == 4) = true := by rw [k4]; decide
        have HOF := hide (off_any p (some ⟨bk2, of2, none⟩) cap' u us 0 0 0 wc HS.out.r (by omega) HS.out.r.cm)
        have HK4 := hide k4
        clear k4
        go_wp2_with fail
        refine HN2.out.mono ?_
        rintro e w5 ⟨rfl, rfl⟩
        go_wp2_with fail
        refine HN2.out.mono ?_
        rintro e w5 ⟨rfl, rfl⟩
        go_wp2_with fail
        refine HOF.out.mono ?_
        rintro e w5 ⟨rfl, ho, A5, hr⟩
        have HO := hide ho
        have HR := hide hr
        clear ho hr q0 q1 q2 q3 r1 c0 c1
        rcases Nat.eq_zero_or_pos all.len with h0 | h0
        · have hq0 : decide (0 < all.len) = false := by simp; omega
          have hq1 : decide ((0 : Int) < (all.len : Int)) = false := by simp; omega
          have h6 := only_heap HO.out HS.out.n6 (by have := HS.out.h6; omega)
          have n0 := cell_heap (j := 0) h6 rfl
          have n1 := cell_heap (j := 1) h6 rfl
          have n2 := cell_heap (j := 2) h6 rfl
          have n3 := cell_heap (j := 3) h6 rfl
          have HLN := hide (lo_node (K := .nil) (A := none) (c := 0) (ys := []) (D := fun _ => False) false (Nat.le_trans HS.out.o.size HO.out.size) (own_only HS.out.ow HO.out hp) (own_only HS.out.op HO.out hp) (w := w) (los_nil _ _))
          have HZ := hide h0
          clear h0 h6
          go_wp2_with fail
          (try simp only [Exit.inBlock, Exit.then])
          go_ret
          rw [HQ.out, tailS, if_pos HK4.out, if_pos HZ.out]
          exact ⟨only_alloc (only_trans HS.out.o HO.out) _, _, _, _, _, _, rfl, HLN.out, HR.out.below (bel_one w5 _)⟩
        · have hq0 : decide (0 < all.len) = true := by simpa using h0
          have hq1 : decide ((0 : Int) < (all.len : Int)) = true := by simp; omega
          have HZ := hide h0
          clear h0
          go_wp2_with fail
          (try simp only [Exit.inBlock, Exit.then])
          go_ret
          rw [HQ.out, tailS, if_pos HK4.out, if_neg (by have := HZ.out; omega)]
          exact ⟨only_trans HS.out.o HO.out, _, _, _, _, _, rfl, HS.out.al.grow HO.out (fun b e => by injection e with e; omega), HR.out⟩
      · have kb : (u.k == 4) = false := by simpa using k4
        have HK4 := hide k4
        clear k4
        by_cases k2 : u.k = 2
        · have kc : (u.k == 2) = true := by rw [k2]; decide
          have HK2 := hide k2
          clear k2
          rcases Nat.eq_zero_or_pos all.len with h0 | h0
          · have hq0 : (all.len == 0) = true := by simpa using h0
            have hq1 : ((all.len : Int) == 0) = true := by simp; omega
            have HZ := hide h0
            clear h0
            by_cases h32 : deep = 32
            · have HD := hide h32
              have hd0 : (deep == 32) = true := by simpa using h32
              have hd1 : ((deep : Int) == 32) = true := by simp; omega
              clear h32
              have HFL := hide (fail_any p (some ⟨bk2, of2, none⟩) cap' (u :: us) 140 u.l u.c wc HS.out.r)
              go_wp2_with fail
              refine HN2.out.mono ?_
              rintro e w5 ⟨rfl, rfl⟩
              go_wp2_with fail
              refine HN2.out.mono ?_
              rintro e w5 ⟨rfl, rfl⟩
              go_wp2_with fail
              refine HN2.out.mono ?_
              rintro e w5 ⟨rfl, rfl⟩
              go_wp2_with fail
              refine HFL.out.mono ?_
              rintro e w5 ⟨rfl, ho, hr⟩
              have HO := hide ho
              have HR := hide hr
              clear ho hr
              go_wp2_with fail
              (try simp only [Exit.inBlock, Exit.then])
              go_ret
              rw [HQ.out, tailS, if_neg HK4.out, if_pos ⟨HK2.out, HZ.out⟩, if_pos HD.out]
              exact ⟨only_trans HS.out.o HO.out, by decide, _, _, _, 0, [], _, rfl, ⟨rfl, .inl ⟨rfl, rfl⟩⟩, (fun u hu => by cases hu), by omega, HR.out⟩
            · have HD := hide h32
              have hd0 : (deep == 32) = false := by simpa using h32
              have hd1 : ((deep : Int) == 32) = false := by simp; omega
              clear h32
              have HOF := hide (off_any p (some ⟨bk2, of2, none⟩) cap' u us 0 0 0 wc HS.out.r (by omega) HS.out.r.cm)
              go_wp2_with fail
              refine HN2.out.mono ?_
              rintro e w5 ⟨rfl, rfl⟩
              go_wp2_with fail
              refine HN2.out.mono ?_
              rintro e w5 ⟨rfl, rfl⟩
              go_wp2_with fail
              refine HN2.out.mono ?_
              rintro e w5 ⟨rfl, rfl⟩
              go_wp2_with fail
              refine HN2.out.mono ?_
              rintro e w5 ⟨rfl, rfl⟩
              go_wp2_with fail
              refine HOF.out.mono ?_
              rintro e w5 ⟨rfl, ho, A5, hr⟩
              have hb6 : p < w2.heap.size := Nat.lt_of_lt_of_le hp HS.out.h6
              have h6 := heap_old (p := TokC u) (only_heap ho HS.out.n6 (by omega))
              have hT := heap_new w5 (TokC u)
              have n2 := cell_heap (j := 2) h6 rfl
              have f2 := frozen_heap (j := 2) h6
              have t2 := cell_heap (j := 2) hT rfl
              have t3 := cell_heap (j := 3) hT rfl
              have hne : w5.heap.size ≠ w2.heap.size := by
                have h1 := lt_heap HS.out.n6
                have h2 := ho.size
                omega
              have HO := hide ho
              have HR := hide (hr.below (bel_one w5 (TokC u)))
              have H6 := hide h6
              have HT := hide hT
              clear ho hr q0 q1 q2 q3 r1 c0 c1 h6 hT
              go_wp2_with fail
              have HR7 := hide (HR.out.only (only_set (only_refl w2.heap.size (w5.alloc (TokC u))) 2 (.bool true)) (fun b e => by injection e with e; omega))
              have H67 := hide (heap_set (j := 2) (u := .bool true) H6.out)
              have HOA := hide (only_trans HS.out.o (only_alloc HO.out (TokC u)))
              have HW7 := hide (own_kept ((own_only HS.out.ow HO.out hp).alloc (TokC u)) (only_set (only_refl w2.heap.size (w5.alloc (TokC u))) 2 (.bool true)) (fun g e => by injection e with e; rw [← e]; exact own_ne_row ((own_only HS.out.ow HO.out hp).alloc (TokC u)) H6.out (by decide)))
              have HP7 := hide (own_kept ((own_only HS.out.op HO.out hp).alloc (TokC u)) (only_set (only_refl w2.heap.size (w5.alloc (TokC u))) 2 (.bool true)) (fun g e => by injection e with e; rw [← e]; exact own_ne_row ((own_only HS.out.op HO.out hp).alloc (TokC u)) H6.out (by decide)))
              have HG7 := hide (only_set (only_refl w2.heap.size (w5.alloc (TokC u))) 2 (.bool true))
              generalize (w5.alloc (TokC u)).setCell ⟨w2.heap.size, 2, none⟩ (.bool true) = w7 at *
              have HC := hide (HL.out (deep + 1) u.pos A5 (cap' - 1) us w7 HR7.out (by have := HD.out; omega) (by omega) (by omega))
              rw [show ((deep + 1 : Nat) : Int) = (deep : Int) + 1 from rfl] at HC
              refine HC.out.mono ?_
              intro e w8 hh
              obtain ⟨ho8, hh⟩ := hh
              cases hls : listF g (deep + 1) u.pos us with
              | err e2 l2 c2 =>
                rw [hls] at hh
                obtain ⟨hne2, v, A8, cap8, n8, ys, ts8, rfl, hown8, hone8, hn8, hr8⟩ := hh
                obtain ⟨Ak, ck, rfl⟩ := own_slice hown8
                have h68 := only_heap ho8 H67.out (by omega)
                have n0 := cell_heap (j := 0) h68 rfl
                have n1 := cell_heap (j := 1) h68 rfl
                have n2 := cell_heap (j := 2) h68 rfl
                have n3 := cell_heap (j := 3) h68 rfl
                have f3 := frozen_heap (j := 3) h68
                have H68 := hide h68
                have HO8 := hide ho8
                have h67s := lt_heap H67.out
                have HOZ := hide (only_of_big HOA.out HG7.out ho8 HS.out.h6 hp)
                have HR8 := hide hr8
                have HLS := hide hls
                have HNE := hide hne2
                clear hr8 hls hown8 hone8 h68 ho8 hne2
                go_wp2_with fail
                (try simp only [Exit.inBlock, Exit.then])
                go_ret
                rw [HQ.out, tailS, if_neg HK4.out, if_pos ⟨HK2.out, HZ.out⟩, if_neg HD.out]
                simp only [HLS.out]
                have hgs := only_set (only_refl w2.heap.size w8) 3 (.slice Ak n8 ck)
                have hse : (w8.setCell ⟨w2.heap.size, 3, none⟩ (.slice Ak n8 ck)).heap.size = w8.heap.size := by simp [World.setCell]
                have hnew := heap_new (w8.setCell ⟨w2.heap.size, 3, none⟩ (.slice Ak n8 ck)) (NodeC (.slice Aw (wordsT (t :: ts)).length cw) (.slice Ap (wordsT (t :: ts)).length cp) true (.slice Ak n8 ck))
                rw [hse] at hnew
                exact ⟨only_alloc (only_grow HOZ.out hgs HS.out.h6) _, HNE.out, _, _, _, 1, [.slice Aw (wordsT (t :: ts)).length cw, .slice Ap (wordsT (t :: ts)).length cp, .bool true, .slice Ak n8 ck], _, rfl, ⟨rfl, .inr ⟨_, 1, _, rfl, HOZ.out.size, hnew, Nat.le_refl _, by decide, rfl, rfl⟩⟩, (fun x hx => by simp at hx; rcases hx with h | h | h | h <;> rw [h] <;> rfl), by omega, (HR8.out.only hgs (fun b e => by injection e with e; omega)).below (bel_one _ _)⟩
              | ok K r =>
                rw [hls] at hh
                obtain ⟨v, A8, cap8, ys, D, rfl, hlo8, hr8⟩ := hh
                obtain ⟨Ak, ck, rfl⟩ := own_slice hlo8.own
                have h68 := only_heap ho8 H67.out (by omega)
                have n0 := cell_heap (j := 0) h68 rfl
                have n1 := cell_heap (j := 1) h68 rfl
                have n2 := cell_heap (j := 2) h68 rfl
                have n3 := cell_heap (j := 3) h68 rfl
                have f3 := frozen_heap (j := 3) h68
                have H68 := hide h68
                have HO8 := hide ho8
                have h67s := lt_heap H67.out
                have HOZ := hide (only_of_big HOA.out HG7.out ho8 HS.out.h6 hp)
                have HR8 := hide hr8
                have HLO8 := hide hlo8
                have HLS := hide hls
                clear hr8 hls hlo8 h68 ho8
                go_wp2_with fail
                (try simp only [Exit.inBlock, Exit.then])
                go_ret
                rw [HQ.out, tailS, if_neg HK4.out, if_pos ⟨HK2.out, HZ.out⟩, if_neg HD.out]
                simp only [HLS.out]
                have hgs := only_set (only_refl w2.heap.size w8) 3 (.slice Ak K.len ck)
                have hsz : w.heap.size ≤ (w8.setCell ⟨w2.heap.size, 3, none⟩ (.slice Ak K.len ck)).heap.size := Nat.le_trans HOZ.out.size hgs.size
                have hw8 := own_only HW7.out HO8.out hp
                have hp8 := own_only HP7.out HO8.out hp
                have hw9 := own_kept hw8 hgs (fun g e => by injection e with e; rw [← e]; exact own_ne_row hw8 H68.out (by decide))
                have hp9 := own_kept hp8 hgs (fun g e => by injection e with e; rw [← e]; exact own_ne_row hp8 H68.out (by decide))
                have hlo9 := (HLO8.out.grow hgs (fun b e => by injection e with e; omega)).base (w0 := w) (by have h1 := HOA.out.size; have h2 := HG7.out.size; omega)
                have hse : (w8.setCell ⟨w2.heap.size, 3, none⟩ (.slice Ak K.len ck)).heap.size = w8.heap.size := by simp [World.setCell]
                have hln := lo_node true hsz hw9 hp9 hlo9
                rw [hse] at hln
                exact ⟨only_alloc (only_grow HOZ.out hgs HS.out.h6) _, _, _, _, _, _, rfl, hln, (HR8.out.only hgs (fun b e => by injection e with e; omega)).below (bel_one _ _)⟩
          · have hq0 : (all.len == 0) = false := by simp; omega
            have hq1 : ((all.len : Int) == 0) = false := by simp; omega
            have HZ := hide h0
            clear h0
            have HFL := hide (fail_any p (some ⟨bk2, of2, none⟩) cap' (u :: us) 130 u.l u.c wc HS.out.r)
            go_wp2_with fail
            refine HN2.out.mono ?_
            rintro e w5 ⟨rfl, rfl⟩
            go_wp2_with fail
            refine HN2.out.mono ?_
            rintro e w5 ⟨rfl, rfl⟩
            go_wp2_with fail
            refine HN2.out.mono ?_
            rintro e w5 ⟨rfl, rfl⟩
            go_wp2_with fail
            refine HN2.out.mono ?_
            rintro e w5 ⟨rfl, rfl⟩
            go_wp2_with fail
            refine HFL.out.mono ?_
            rintro e w5 ⟨rfl, ho, hr⟩
            have HO := hide ho
            have HR := hide hr
            clear ho hr
            go_wp2_with fail
            (try simp only [Exit.inBlock, Exit.then])
            go_ret
            rw [HQ.out, tailS, if_neg HK4.out, if_neg (fun h => by have := HZ.out; omega)]
            exact ⟨only_trans HS.out.o HO.out, by decide, _, _, _, 0, [], _, rfl, ⟨rfl, .inl ⟨rfl, rfl⟩⟩, (fun u hu => by cases hu), by omega, HR.out⟩
        · have kc : (u.k == 2) = false := by simpa using k2
          have HFL := hide (fail_any p (some ⟨bk2, of2, none⟩) cap' (u :: us) 130 u.l u.c wc HS.out.r)
          have HK2 := hide k2
          clear k2
          go_wp2_with fail
          refine HN2.out.mono ?_
          rintro e w5 ⟨rfl, rfl⟩
          go_wp2_with fail
          refine HN2.out.mono ?_
          rintro e w5 ⟨rfl, rfl⟩
          go_wp2_with fail
          refine HN2.out.mono ?_
          rintro e w5 ⟨rfl, rfl⟩
          go_wp2_with fail
          refine HN2.out.mono ?_
          rintro e w5 ⟨rfl, rfl⟩
          go_wp2_with fail
          refine HFL.out.mono ?_
          rintro e w5 ⟨rfl, ho, hr⟩
          have HO := hide ho
          have HR := hide hr
          clear ho hr
          go_wp2_with fail
          (try simp only [Exit.inBlock, Exit.then])
          go_ret
          rw [HQ.out, tailS, if_neg HK4.out, if_neg (fun h => HK2.out h.1)]
          exact ⟨only_trans HS.out.o HO.out, by decide, _, _, _, 0, [], _, rfl, ⟨rfl, .inl ⟨rfl, rfl⟩⟩, (fun u hu => by cases hu), by omega, HR.out⟩
end Go.Proofs.Ytihmmmodimionaa.Tr
/- The closed texts of TreeNames: what they read as. -/
namespace Go.Proofs.Ytihmmmodimionaa.Tr
open Go.RowKit Go.Proofs.Ytihmmmodimionaa Go.Proofs.Ytihmmmodimionaa.Lx

def rep : Nat → List UInt8 → List UInt8
  | 0, _ => []
  | n + 1, x => rep n x ++ x
def bsOf (ts : List Tok) : List BTok := ts.map fun t => ⟨t.k, ⟨t.t.toArray⟩, t.l, t.c⟩
theorem bsOf_tok {bs : List BTok} {ts : List Tok} (h : bs.map BTok.tok = ts) : bs = bsOf ts := by
  subst h
  unfold bsOf
  rw [List.map_map]
  conv => lhs; rw [← List.map_id bs]
  exact List.map_congr_left (fun x _ => rfl)
def t32 : List UInt8 := rep 32 [97, 32, 123] ++ rep 32 [125]
def t33 : List UInt8 := rep 32 [97, 32, 123] ++ [97, 32, 123] ++ rep 32 [125] ++ [125]
def okB (r : PR) : Bool := match r with | .ok _ [] => true | _ => false
def errB (r : PR) (e l c : Int) : Bool := match r with | .err e' l' c' => decide (e' = e ∧ l' = l ∧ c' = c) | _ => false
theorem tok32 : (tokRes t32).2 = (0, 0, 0) := by kernel_rfl
theorem tok33 : (tokRes t33).2 = (0, 0, 0) := by kernel_rfl
theorem read32 : okB (listF (bsOf (tokRes t32).1).length.succ 0 (0, 0) (bsOf (tokRes t32).1)) = true := by kernel_rfl
theorem read33 : errB (listF (bsOf (tokRes t33).1).length.succ 0 (0, 0) (bsOf (tokRes t33).1)) 140 1 99 = true := by kernel_rfl
end Go.Proofs.Ytihmmmodimionaa.Tr
/- What Parse reads, in plain words: kinds of tokens are never 0. -/
namespace Go.Proofs.Ytihmmmodimionaa.Tr
open Go.RowKit Go.Proofs.Ytihmmmodimionaa Go.Proofs.Ytihmmmodimionaa.Lx

theorem step_kz (s : List UInt8) : (Lx.step s).k ≠ 0 := by
  unfold Lx.step
  simp only
  repeat' split
  all_goals first | exact (by decide : (1 : Int) ≠ 0) | (simp only [ne_eq]; omega)
theorem toks_kz : ∀ (f : Nat) (s : List UInt8) (l c : Int) (ts : List Tok), toks f s l c = .ok ts → ∀ t ∈ ts, t.k ≠ 0
  | 0, _, _, _, ts, h, t, ht => by cases h; cases ht
  | f + 1, [], _, _, ts, h, t, ht => by cases h; cases ht
  | f + 1, x :: xs, l, c, ts, h, t, ht => by
    rw [toks_step f _ l c (by simp)] at h
    split at h
    · cases h
    · cases e : toks f ((x :: xs).drop (Lx.step (x :: xs)).n) (adv ((x :: xs).take (Lx.step (x :: xs)).n) l c).1 (adv ((x :: xs).take (Lx.step (x :: xs)).n) l c).2 with
      | error q => rw [e] at h; cases h
      | ok us =>
        rw [e] at h
        injection h with h
        subst h
        rcases List.mem_append.1 ht with h1 | h1
        · split at h1
          · obtain rfl : t = _ := by simpa using h1
            exact step_kz _
          · cases h1
        · exact toks_kz f _ _ _ us e t h1
theorem tokRes_kz (s : List UInt8) : ∀ t ∈ (tokRes s).1, t.k ≠ 0 := by
  intro t ht
  unfold tokRes at ht
  split at ht
  · split at ht
    · cases ht
    · rename_i us e
      exact toks_kz _ _ _ _ _ e t ht
  · cases ht
theorem bsOf_kz (s : List UInt8) : ∀ t ∈ bsOf (tokRes s).1, t.k ≠ 0 := by
  intro t ht
  unfold bsOf at ht
  obtain ⟨u, hu, rfl⟩ := List.mem_map.1 ht
  exact tokRes_kz s u hu
/-- what Parse answers -/
def parseF (s : List UInt8) : PR :=
  if (tokRes s).2.2.2 = 0 then listF ((tokRes s).1.length + 1) 0 (0, 0) (bsOf (tokRes s).1) else .err (tokRes s).2.2.2 (tokRes s).2.1 (tokRes s).2.2.1
theorem bsOf_len (ts : List Tok) : (bsOf ts).length = ts.length := by simp [bsOf]
end Go.Proofs.Ytihmmmodimionaa.Tr
/- list, joined with statement; Parse. -/
namespace Go.Proofs.Ytihmmmodimionaa.Tr
open Go.RowKit Go.Proofs.Ytihmmmodimionaa Go.Proofs.Ytihmmmodimionaa.Lx

theorem list_any (p : Nat) : ∀ (f deep : Nat) (op : Pl) (A : Option Addr) (cap : Nat) (ts : List BTok) (w : World), RdX w p A cap ts 0 0 0 → deep ≤ 32 → ts.length < f → ts.length ≤ 100000 →
    Calls Try.prog 35 #[.pointer (some ⟨p, 0, none⟩), .int .i64 deep, .agg #[.int .i64 op.1, .int .i64 op.2]] w (ListOut 200000 p w (listF f deep op ts)) := by
  intro f
  induction f using Nat.strongRecOn with
  | _ f ih =>
    intro deep op A cap ts w h hd hf hl
    exact list_walk p f (hide fun g hg => fun deep A cap t ts w hd hk hl hgl h => stmt_walk p g (hide (fun deep op A cap ts w h hd hg' hl => ih g hg deep op A cap ts w h hd hg' hl)) deep A cap t ts w hd hk hl hgl h) deep op A cap ts w h hd hf hl
/-- what Parse hands back -/
def ParseOut (r : PR) (w : World) (e' : Ending) (w' : World) : Prop :=
  Below w.heap.size w w' ∧ match r with
  | .ok F _ => ∃ v xs B, e' = .returned (.tuple #[v, .agg #[.int .i64 0, .int .i64 0], .int .i64 0]) ∧ Lo w w' v F xs B
  | .err e l c => e ≠ 0 ∧ e' = .returned (.tuple #[.slice none 0 0, .agg #[.int .i64 l, .int .i64 c], .int .i64 e])
/-- .. and all that it holds is its own -/
def ParseOutS (r : PR) (w : World) (e' : Ending) (w' : World) : Prop :=
  Below w.heap.size w w' ∧ match r with
  | .ok F _ => ∃ v xs B, e' = .returned (.tuple #[v, .agg #[.int .i64 0, .int .i64 0], .int .i64 0]) ∧ LoS w w' v F xs B
  | .err e l c => e ≠ 0 ∧ e' = .returned (.tuple #[.slice none 0 0, .agg #[.int .i64 l, .int .i64 c], .int .i64 e])
theorem ParseOutS.out {r : PR} {w : World} {e' : Ending} {w' : World} (h : ParseOutS r w e' w') : ParseOut r w e' w' := by
  cases r with
  | ok F rest =>
    obtain ⟨hb, v, xs, B, he, hl⟩ := h
    exact ⟨hb, v, xs, B, he, hl.toLo⟩
  | err e l c => exact h
/-- a reader's block -/
structure RS (p : Nat) (A : Option Addr) (n cap : Nat) (e l c : Int) (x : World) : Prop where
  h : x.heap[p]? = some (.cells #[.slice A n cap, .int .i64 e, .int .i64 l, .int .i64 c] 79 (0, 0))
abbrev PosC (l c : Int) : Obj := .cells #[.int .i64 l, .int .i64 c] 24
theorem below_only {B p : Nat} {w x y : World} (h : Below B w x) (ho : Only p x y) (hp : B ≤ p) (hs : B ≤ x.heap.size) : Below B w y :=
  ⟨ho.os.trans h.os, ho.tape.trans h.tape, ho.output.trans h.output, Nat.le_trans h.size ho.size, fun i hi => (ho.block i (Nat.lt_of_lt_of_le hi hs) (fun e => by injection e with e; omega)).trans (h.block i hi)⟩
set_option maxHeartbeats 2000000 in
set_option maxRecDepth 100000 in
theorem parse_anyS (s : ByteArray) (w : World) (hlen : s.size ≤ maxLen) (m : Int) (hm : w.cell? ⟨0, 0, none⟩ = some (.int .i64 m)) :
    Calls Try.prog 12 #[.string s] w (ParseOutS (parseF (T s)) w) := by
  have HT := hide (fun o => tokens_any s (w.alloc o) hlen m (cellB (bel_one w o) hm))
  have HK := hide (bsOf_kz (T s))
  have HF : Hid (parseF (T s) = if (tokRes (T s)).2.2.2 = 0 then listF ((bsOf (tokRes (T s)).1).length + 1) 0 (0, 0) (bsOf (tokRes (T s)).1) else .err (tokRes (T s)).2.2.2 (tokRes (T s)).2.1 (tokRes (T s)).2.2.1) := hide (by rw [bsOf_len]; rfl)
  generalize hq : (tokRes (T s)).2 = q at HT HF
  obtain ⟨l, c, r⟩ := q
  clear hq
  go_enter Try.func12, Try.ntmps12
  go_wp2_with fail
  refine (HT.out _).mono ?_
  rintro e w1 ⟨v, bs, hbs, rfl, hown, hb, hlb⟩
  have hbs' := bsOf_tok hbs
  rw [← hbs'] at HF HK
  clear hbs hbs' HT
  have hp1 : PosR w1 w.heap.size 0 0 := heapB hb (heap_new w _)
  have hbw : Below w.heap.size w w1 := below_wide (bel_one _ _) hb
  obtain ⟨Av, cv, rfl⟩ := own_slice hown
  have hcaps := own_caps hown
  have HP1 := hide hp1
  have HB := hide hbw
  have hsz : w.heap.size < w1.heap.size := lt_heap hp1
  by_cases hr : r = 0
  · have hne : (r != 0) = false := by rw [hr]; decide
    have HF2 := hide (show parseF (T s) = listF (bs.length + 1) 0 (0, 0) bs from by rw [HF.out, if_pos hr])
    have hrd : RdX ((w1.alloc (PosC l c)).alloc (.cells #[.slice Av bs.length cv, .int .i64 0, .int .i64 0, .int .i64 0] 79)) (w1.heap.size + 1) Av cv bs 0 0 0 := by
      have hn := heap_new (w1.alloc (PosC l c)) (.cells #[.slice Av bs.length cv, .int .i64 0, .int .i64 0, .int .i64 0] 79)
      have hs : (w1.alloc (PosC l c)).heap.size = w1.heap.size + 1 := by simp
      rw [hs] at hn
      exact ⟨hn, ((own_src hown).below (bel_one w1 _)).below (bel_one _ _), fun a ha => by have := hcaps.2.2 a ha; omega, hcaps.1, hcaps.2.1, HK.out⟩
    have HL := hide (list_any (w1.heap.size + 1) (bs.length + 1) 0 (0, 0) Av cv bs _ hrd (by omega) (by omega) (by omega))
    have HS3 := hide (show ((w1.alloc (PosC l c)).alloc (.cells #[.slice Av bs.length cv, .int .i64 0, .int .i64 0, .int .i64 0] 79)).heap.size = w1.heap.size + 2 from by simp)
    have HB3 := hide (show Below w.heap.size w ((w1.alloc (PosC l c)).alloc (.cells #[.slice Av bs.length cv, .int .i64 0, .int .i64 0, .int .i64 0] 79)) from (hbw.alloc (by omega) _).alloc (by simp; omega) _)
    have HP3 := hide (show PosR ((w1.alloc (PosC l c)).alloc (.cells #[.slice Av bs.length cv, .int .i64 0, .int .i64 0, .int .i64 0] 79)) w.heap.size 0 0 from heap_old (heap_old hp1))
    clear hr hrd hcaps hown hb hp1 hbw HF
    go_wp2_with fail
    refine HL.out.mono ?_
    intro e w4 hh
    generalize (w1.alloc (PosC l c)).alloc (.cells #[.slice Av bs.length cv, .int .i64 0, .int .i64 0, .int .i64 0] 79) = w3 at *
    obtain ⟨ho, hh⟩ := hh
    have hp4 : PosR w4 w.heap.size 0 0 := only_heap ho HP3.out (by omega)
    have p0 := cell_heap (j := 0) hp4 rfl
    have p1 := cell_heap (j := 1) hp4 rfl
    have f0 := frozen_heap (j := 0) hp4
    have f1 := frozen_heap (j := 1) hp4
    have HO := hide ho
    have HP4 := hide hp4
    have HB4 := hide (below_only HB3.out ho (by omega) (by have := HS3.out; omega))
    clear ho hp4 HL
    cases hls : listF (bs.length + 1) 0 (0, 0) bs with
    | ok F rest =>
      rw [hls] at hh
      obtain ⟨v', A4, cap4, xs, B, rfl, hlo, hr4⟩ := hh
      obtain ⟨Ak, ck, rfl⟩ := own_slice hlo.own
      have e1 := cell_heap (j := 1) hr4.h rfl
      have HLO := hide hlo
      have HLS := hide hls
      clear hlo hr4 hls
      go_wp2_with fail
      refine bodyPost_ret (v := .tuple #[.slice Ak F.len ck, .agg #[.int .i64 0, .int .i64 0], .int .i64 0]) (by simp [results, Try.results12, go_sem, p0, p1]) rfl ?_
      rw [HF2.out, HLS.out]
      have hst := only_set (only_set (only_refl w.heap.size w4) 0 (.int .i64 0)) 1 (.int .i64 0)
      exact ⟨((HB4.out.setCell (p := ⟨w.heap.size, 0, none⟩) (Nat.le_refl _) _).setCell (p := ⟨w.heap.size, 1, none⟩) (Nat.le_refl _) _), _, _, _, rfl, (HLO.out.grow hst (fun b e => by injection e with e; have := HS3.out; omega)).base (by have := HS3.out; omega)⟩
    | err e2 l2 c2 =>
      rw [hls] at hh
      obtain ⟨hne2, v', A4, cap4, n4, ys, ts4, rfl, hown4, _, _, hr4⟩ := hh
      obtain ⟨Ak, ck, rfl⟩ := own_slice hown4
      have hb2 : (e2 != 0) = true := bne_iff_ne.2 hne2
      have e1 := cell_heap (j := 1) hr4.h rfl
      have HLS := hide hls
      have HNE := hide hne2
      have hws : RS (w1.heap.size + 1) A4 ts4.length cap4 e2 l2 c2 w4.drew := ⟨hr4.h⟩
      have HWS := hide hws
      have k1 := fun x => cell_heap (j := 1) (pin_in hws x).h rfl
      have k2 := fun x => cell_heap (j := 2) (pin_in hws x).h rfl
      have k3 := fun x => cell_heap (j := 3) (pin_in hws x).h rfl
      clear hls hr4 hown4 hne2 hws
      go_wp2_with fail
      refine wp_region_tree (RS (w1.heap.size + 1) A4 ts4.length cap4 e2 l2 c2) (fun k => ([] : List Nat).contains k) (.take [0, 1, 2, 3, 4, 5, 6, 7, 8] (.step 9 (.take [10] .done))) (by kernel_rfl) (by kernel_rfl) (by kernel_rfl) (by kernel_rfl) (.take (.cons (.zero) (.cons (.succ (.zero)) (.cons (.succ (.succ (.zero))) (.cons (.succ (.succ (.succ (.zero)))) (.cons (.succ (.succ (.succ (.succ (.zero))))) (.cons (.succ (.succ (.succ (.succ (.succ (.zero)))))) (.cons (.succ (.succ (.succ (.succ (.succ (.succ (.zero))))))) (.cons (.succ (.succ (.succ (.succ (.succ (.succ (.succ (.zero)))))))) (.cons (.succ (.succ (.succ (.succ (.succ (.succ (.succ (.succ (.zero))))))))) .nil))))))))) (.step (.succ (.succ (.succ (.succ (.succ (.succ (.succ (.succ (.succ (.zero)))))))))) rfl (.take (.cons (.succ (.succ (.succ (.succ (.succ (.succ (.succ (.succ (.succ (.succ (.zero))))))))))) .nil) .done))) ?hQ ?hS ?_
      case hQ => exact fun _ _ _ _ _ h => h
      case hS => exact HWS.out
      refine wpT_take ?_
      repeat (first | go_big_quiet_step ((fail)) | quiet_step ((fail)))
      refine wpQuiet_nil ?_
      have hp5 : PosR w4.drew w.heap.size 0 0 := HP4.out
      have g0 := cell_heap (j := 0) hp5 rfl
      have g1 := cell_heap (j := 1) hp5 rfl
      have gf0 := frozen_heap (j := 0) hp5
      have gf1 := frozen_heap (j := 1) hp5
      have HB5 := hide (HB4.out.drew)
      generalize w4.drew = w5 at *
      refine wpT_step rfl ?_
      intro K1 hK1
      go_wp2_with fail
      refine hK1.out _ _ (fun _ => pin_mem ⟨only_heap (only_set (only_set (only_refl w.heap.size w5) 0 _) 1 _) HWS.out.h (by omega)⟩) ?_
      clear hK1
      refine wpT_take ?_
      repeat (first | go_big_quiet_step ((fail)) | quiet_step ((fail)))
      refine wpQuiet_nil ?_
      refine wpT_done ?_
      go_wp2_with fail
      refine bodyPost_ret (v := .tuple #[.slice none 0 0, .agg #[.int .i64 l2, .int .i64 c2], .int .i64 e2]) (by simp [results, Try.results12, go_sem, g0, g1]) rfl ?_
      rw [HF2.out, HLS.out]
      exact ⟨((HB5.out.setCell (p := ⟨w.heap.size, 0, none⟩) (Nat.le_refl _) _).setCell (p := ⟨w.heap.size, 1, none⟩) (Nat.le_refl _) _), HNE.out, rfl⟩
  · have hne : (r != 0) = true := bne_iff_ne.2 hr
    have HF2 := hide (show parseF (T s) = .err r l c from by rw [HF.out, if_neg hr])
    have HR := hide hr
    have q0 := fun o => cell_heap (j := 0) (heap_old (p := o) hp1) rfl
    have q1 := fun o => cell_heap (j := 1) (heap_old (p := o) hp1) rfl
    have f0 := fun o => frozen_heap (j := 0) (heap_old (p := o) hp1)
    have f1 := fun o => frozen_heap (j := 1) (heap_old (p := o) hp1)
    clear hsz hr hcaps hown hb hp1 hbw HF
    go_wp2_with fail
    go_region
    go_wp2_with fail
    refine bodyPost_ret (v := .tuple #[.slice none 0 0, .agg #[.int .i64 l, .int .i64 c], .int .i64 r]) (by simp [results, Try.results12, go_sem, q0, q1]) rfl ?_
    rw [HF2.out]
    exact ⟨(((HB.out.alloc HB.out.size _).setCell (p := ⟨w.heap.size, 0, none⟩) (Nat.le_refl _) _).setCell (p := ⟨w.heap.size, 1, none⟩) (Nat.le_refl _) _).drew, HR.out, rfl⟩
theorem parse_any (s : ByteArray) (w : World) (hlen : s.size ≤ maxLen) (m : Int) (hm : w.cell? ⟨0, 0, none⟩ = some (.int .i64 m)) :
    Calls Try.prog 12 #[.string s] w (ParseOut (parseF (T s)) w) := (parse_anyS s w hlen m hm).mono fun _ _ h => h.out
end Go.Proofs.Ytihmmmodimionaa.Tr
