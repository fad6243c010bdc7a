/- What the claim leans on, part 10 of 16: VC VD VDA. -/
import Derived.Test.YtihmmmodimionaaWr01
import Derived.Test.YtihmmmodimionaaWr02
import Derived.Test.YtihmmmodimionaaWr03
import Derived.Test.YtihmmmodimionaaWr04
import Derived.Test.YtihmmmodimionaaWr05
import Derived.Test.YtihmmmodimionaaWr06
import Derived.Test.YtihmmmodimionaaWr07
import Derived.Test.YtihmmmodimionaaWr08
import Derived.Test.YtihmmmodimionaaWr09
/- The document's reading: a word is taken (printed by gen_vc.py). -/
namespace Go.Proofs.Ytihmmmodimionaa.Tr
open Go.RowKit Go.Proofs.Ytihmmmodimionaa Go.Proofs.Ytihmmmodimionaa.Lx

section
variable (p : Nat) (A : Option Addr) (cap : Nat) (ts : List BTok) (i : Nat) (vr vb : Value) (e l c : Int) (d : Int) (ws : List ByteArray) (ps : List Pl) (Aw : Option Addr) (cw : Nat) (Ap : Option Addr) (cp : Nat) (b : Bool) (w : World)
set_option maxHeartbeats 8000000 in
set_option maxRecDepth 100000 in
theorem word_any (h : StX w p A cap ts i vr vb e l c) (hi : i < ts.length) (hw : Src w Aw ws.length cw 1 (ws.map Value.string)) (hp : Src w Ap ps.length cp 2 (posC ps)) (hwl : ws.length ≤ 65536) (hpl : ps.length ≤ 65536) :
    Calls Try.prog 70 #[.pointer (some ⟨p, 0, none⟩), .agg #[.int .i64 d, .slice Aw ws.length cw, .slice Ap ps.length cp, .bool b]] w (WordOut p A cap ts i vr vb e l c d ws ps b ts[i] w) := by
  obtain ⟨si, sz0, sz, ss, sb2⟩ := info_parts infoS
  obtain ⟨qi, qz0, qz, qs, qb⟩ := info_parts infoP
  have hpw := lt_heap h.h
  have HPW := hide hpw
  have HH := hide h
  have HWS := hide hw
  have HPS := hide hp
  have hnl := h.nl
  obtain ⟨tb, tq, rfl, t0, t1, t2, t3⟩ := h.tok hi
  generalize ts[i] = tk at *
  have HT := hide (And.intro t1 (And.intro t2 t3))
  clear h hw hp t0 t1 t2 t3
  go_enter Try.func70, Try.ntmps70
  go_wp2_with fail
  have HBa := hide (bel_two w (RowC d (.slice Aw ws.length cw) (.slice Ap ps.length cp) b) (RowC 0 (.slice none 0 0) (.slice none 0 0) false))
  have HR1 := hide (heap_old (p := RowC 0 (.slice none 0 0) (.slice none 0 0) false) (heap_new w (RowC d (.slice Aw ws.length cw) (.slice Ap ps.length cp) b)))
  have HZ1 := hide (show ((w.alloc (RowC d (.slice Aw ws.length cw) (.slice Ap ps.length cp) b)).alloc (RowC 0 (.slice none 0 0) (.slice none 0 0) false)).heap[w.heap.size + 1]? = some (RowC 0 (.slice none 0 0) (.slice none 0 0) false) from by have := heap_new (w.alloc (RowC d (.slice Aw ws.length cw) (.slice Ap ps.length cp) b)) (RowC 0 (.slice none 0 0) (.slice none 0 0) false); simpa using this)
  have HS1 := hide HBa.out.size
  generalize (w.alloc (RowC d (.slice Aw ws.length cw) (.slice Ap ps.length cp) b)).alloc (RowC 0 (.slice none 0 0) (.slice none 0 0) false) = w1 at *
  have k0 := fun x => cellB (pin_in (Below.refl w1.heap.size w1).drew x) (cell_heap (j := 0) (HH.out.below HBa.out).h rfl)
  have k1 := fun x => cellB (pin_in (Below.refl w1.heap.size w1).drew x) (cell_heap (j := 1) (HH.out.below HBa.out).h rfl)
  have k2 := fun x => cellB (pin_in (Below.refl w1.heap.size w1).drew x) (cell_heap (j := 1) HR1.out rfl)
  have k3 := fun x => cellB (pin_in (Below.refl w1.heap.size w1).drew x) (cellB HBa.out HT.out.1)
  have d2 : ((i : Int) < (ts.length : Int)) := by omega
  refine wp_region_tree ((Below w1.heap.size w1)) (fun k => ([18] : List Nat).contains k) (.take [1, 2, 4, 5, 6, 7, 8, 9, 10, 11, 12, 13, 14] (.fork 0 (.fork 3 (.step 15 (.step 16 (.step 17 (.step 18 .done)))) 15 (.step 3 (.step 16 (.step 17 (.step 18 .done))))) 15 (.step 0 (.step 3 (.step 16 (.step 17 (.step 18 .done))))))) (by kernel_rfl) (by kernel_rfl) (by kernel_rfl) (by kernel_rfl) (.take (.cons (.succ (.zero)) (.cons (.succ (.succ (.zero))) (.cons (.succ (.succ (.succ (.succ (.zero))))) (.cons (.succ (.succ (.succ (.succ (.succ (.zero)))))) (.cons (.succ (.succ (.succ (.succ (.succ (.succ (.zero))))))) (.cons (.succ (.succ (.succ (.succ (.succ (.succ (.succ (.zero)))))))) (.cons (.succ (.succ (.succ (.succ (.succ (.succ (.succ (.succ (.zero))))))))) (.cons (.succ (.succ (.succ (.succ (.succ (.succ (.succ (.succ (.succ (.zero)))))))))) (.cons (.succ (.succ (.succ (.succ (.succ (.succ (.succ (.succ (.succ (.succ (.zero))))))))))) (.cons (.succ (.succ (.succ (.succ (.succ (.succ (.succ (.succ (.succ (.succ (.succ (.zero)))))))))))) (.cons (.succ (.succ (.succ (.succ (.succ (.succ (.succ (.succ (.succ (.succ (.succ (.succ (.zero))))))))))))) (.cons (.succ (.succ (.succ (.succ (.succ (.succ (.succ (.succ (.succ (.succ (.succ (.succ (.succ (.zero)))))))))))))) (.cons (.succ (.succ (.succ (.succ (.succ (.succ (.succ (.succ (.succ (.succ (.succ (.succ (.succ (.succ (.zero))))))))))))))) .nil))))))))))))) (.fork (.zero) rfl (.fork (.succ (.succ (.succ (.zero)))) rfl (.step (.succ (.succ (.succ (.succ (.succ (.succ (.succ (.succ (.succ (.succ (.succ (.succ (.succ (.succ (.succ (.zero)))))))))))))))) rfl (.step (.succ (.succ (.succ (.succ (.succ (.succ (.succ (.succ (.succ (.succ (.succ (.succ (.succ (.succ (.succ (.succ (.zero))))))))))))))))) rfl (.step (.succ (.succ (.succ (.succ (.succ (.succ (.succ (.succ (.succ (.succ (.succ (.succ (.succ (.succ (.succ (.succ (.succ (.zero)))))))))))))))))) rfl (.step (.succ (.succ (.succ (.succ (.succ (.succ (.succ (.succ (.succ (.succ (.succ (.succ (.succ (.succ (.succ (.succ (.succ (.succ (.zero))))))))))))))))))) rfl .done)))) (.succ (.succ (.succ (.succ (.succ (.succ (.succ (.succ (.succ (.succ (.succ (.succ (.succ (.succ (.succ (.zero)))))))))))))))) rfl (.step (.succ (.succ (.succ (.zero)))) rfl (.step (.succ (.succ (.succ (.succ (.succ (.succ (.succ (.succ (.succ (.succ (.succ (.succ (.succ (.succ (.succ (.succ (.zero))))))))))))))))) rfl (.step (.succ (.succ (.succ (.succ (.succ (.succ (.succ (.succ (.succ (.succ (.succ (.succ (.succ (.succ (.succ (.succ (.succ (.zero)))))))))))))))))) rfl (.step (.succ (.succ (.succ (.succ (.succ (.succ (.succ (.succ (.succ (.succ (.succ (.succ (.succ (.succ (.succ (.succ (.succ (.succ (.zero))))))))))))))))))) rfl .done))))) (.succ (.succ (.succ (.succ (.succ (.succ (.succ (.succ (.succ (.succ (.succ (.succ (.succ (.succ (.succ (.zero)))))))))))))))) rfl (.step (.zero) rfl (.step (.succ (.succ (.succ (.zero)))) rfl (.step (.succ (.succ (.succ (.succ (.succ (.succ (.succ (.succ (.succ (.succ (.succ (.succ (.succ (.succ (.succ (.succ (.zero))))))))))))))))) rfl (.step (.succ (.succ (.succ (.succ (.succ (.succ (.succ (.succ (.succ (.succ (.succ (.succ (.succ (.succ (.succ (.succ (.succ (.zero)))))))))))))))))) rfl (.step (.succ (.succ (.succ (.succ (.succ (.succ (.succ (.succ (.succ (.succ (.succ (.succ (.succ (.succ (.succ (.succ (.succ (.succ (.zero))))))))))))))))))) rfl .done))))))) ?hQ ?hS ?_
  case hQ => exact fun _ _ _ _ _ h => h
  case hS => exact (Below.refl _ _).drew
  refine wpT_take ?_
  repeat (first | go_big_quiet_step ((fail)) | quiet_step ((fail)))
  refine wpQuiet_nil ?_
  have HB := hide (show Below w1.heap.size w1 w1.drew from (Below.refl _ _).drew)
  generalize w1.drew = x0 at *
  refine wpT_fork ?_ ?_
  · refine wpT_step rfl ?_
    intro K1 hK1
    go_wp2_with fail
    have HBq := hide (HB.out.alloc HB.out.size (Obj.cells #[] 9))
    have HOW := hide (World.ownsRow_made (e := 9) (size := 1) (base := w.heap.size) x0 #[] 0 (Nat.le_trans HS1.out HB.out.size) (Nat.zero_le _) rfl)
    have HOWB := hide (show ∀ g, (Value.slice (some ⟨x0.heap.size, 0, none⟩) 0 0).ownBlock = some g → w1.heap.size ≤ g from fun g e => by cases e; exact HB.out.size)
    refine hK1.out _ _ (fun _ => pin_mem HBq.out) ?_
    clear HB hK1; have HB := HBq; clear HBq
    generalize hb_bw : x0.heap.size = bw at *
    generalize x0.alloc (Obj.cells #[] 9) = x1 at *
    clear hb_bw
    refine wpT_fork ?_ ?_
    · refine wpT_step rfl ?_
      intro K1 hK1
      refine wp_src (.tmp 5) (.tmp 7) 41 rfl w.heap.size 9 si _ 1 16 Try.underlying41 sz0 sz ss sb2 rfl (by decide) _ 0 [] rfl HOW.out Aw ws.length cw (ws.map Value.string) rfl (HWS.out.below (below_wide HBa.out HB.out)) (fun u hu => str_one hu) ?c63 ?cby (Nat.le_trans HS1.out HB.out.size) ?_
      case c63 => unfold maxLen; omega
      case cby => omega
      intro u1 x2 hown hgrow hwh
      simp only [Nat.zero_add, List.nil_append] at hown ⊢
      have HBq := hide (HB.out.grown hgrow HB.out.size (fun g e => HOWB.out g e))
      have HOWn := hide (show ∀ g, u1.ownBlock = some g → w1.heap.size ≤ g from fun g e => hwh.elim (fun h1 => HOWB.out g (h1 ▸ e)) (fun h1 => by rw [h1] at e; cases e; exact HB.out.size))
      clear HOWB; have HOWB := HOWn; clear HOWn
      have HOWq := hide hown; clear HOW; have HOW := HOWq; clear HOWq
      refine hK1.out _ _ (fun _ => pin_mem HBq.out) ?_
      clear HB hK1 hown hgrow hwh; have HB := HBq; clear HBq
      refine wpT_step rfl ?_
      intro K1 hK1
      go_wp2_with fail
      have HBq := hide (HB.out.alloc HB.out.size (Obj.cells #[.string tk.b] 9))
      have HOWq := hide (HOW.out.alloc (Obj.cells #[.string tk.b] 9)); clear HOW; have HOW := HOWq; clear HOWq
      have HNB := hide (heap_new x2 (Obj.cells #[.string tk.b] 9))
      refine hK1.out _ _ (fun _ => pin_mem HBq.out) ?_
      clear HB hK1; have HB := HBq; clear HBq
      generalize hb_nb : x2.heap.size = nb at *
      generalize x2.alloc (Obj.cells #[.string tk.b] 9) = x3 at *
      clear hb_nb
      refine wpT_step rfl ?_
      intro K1 hK1
      refine wp_src (.tmp 8) (.tmp 20) 41 rfl w.heap.size 9 si _ 1 16 Try.underlying41 sz0 sz ss sb2 rfl (by decide) _ ws.length (ws.map Value.string) rfl HOW.out (some ⟨nb, 0, none⟩) 1 1 [.string tk.b] rfl (src_row (n := 1) (size := 1) HNB.out rfl) (fun u hu => by simp at hu; rw [hu]; rfl) ?c63 ?cby (Nat.le_trans HS1.out HB.out.size) ?_
      case c63 => unfold maxLen; omega
      case cby => omega
      intro u3 x4 hown hgrow hwh
      have HBq := hide (HB.out.grown hgrow HB.out.size (fun g e => HOWB.out g e))
      have HOWn := hide (show ∀ g, u3.ownBlock = some g → w1.heap.size ≤ g from fun g e => hwh.elim (fun h1 => HOWB.out g (h1 ▸ e)) (fun h1 => by rw [h1] at e; cases e; exact HB.out.size))
      clear HOWB; have HOWB := HOWn; clear HOWn
      have HOWq := hide hown; clear HOW; have HOW := HOWq; clear HOWq
      refine hK1.out _ _ (fun _ => pin_mem HBq.out) ?_
      clear HB hK1 hown hgrow hwh; have HB := HBq; clear HBq
      refine wpT_step rfl ?_
      intro K1 hK1
      go_wp2_with fail
      refine hK1.out _ _ (fun _ => pin_mem HB.out) ?_
      clear hK1
      obtain ⟨A1, c1, hu3⟩ := own_slice HOW.out
      have hx4 := heapB HB.out HR1.out
      have hc4 := cell_heap (j := 1) hx4 rfl
      have hf4 := frozen_heap (j := 1) hx4
      subst hu3
      refine wpT_step rfl ?_
      intro K1 hK1
      go_wp2_with fail
      refine hK1.out _ _ (fun h => by cases h) ?_
      clear hK1
      refine wpT_done ?_
      clear hx4 hc4 hf4
      have HBb := hide ((below_lo HBa.out HB.out HS1.out).setCell (p := ⟨w.heap.size, 1, none⟩) (Nat.le_refl _) (.slice A1 (ws.length + 1) c1))
      have HR2 := hide (row_box (u := (.slice A1 (ws.length + 1) c1)) HR1.out HB.out)
      have HZ2 := hide (heap_far (p := ⟨w.heap.size, 1, none⟩) (u := (.slice A1 (ws.length + 1) c1)) (heapB HB.out HZ1.out) (by simp))
      have HW2 := hide (own_cell (j := 1) (u := (.slice A1 (ws.length + 1) c1)) HOW.out (heapB HB.out HR1.out) (by decide))
      have HS2 := hide HBb.out.size
      generalize x4.setCell ⟨w.heap.size, 1, none⟩ (.slice A1 (ws.length + 1) c1) = w2 at *
      clear HB HOW HNB HOWB HR1 HZ1 k0 k1 k2 k3
      have k0 := fun x => cellB (pin_in (Below.refl w2.heap.size w2).drew x) (cell_heap (j := 0) (HH.out.below HBb.out).h rfl)
      have k1 := fun x => cellB (pin_in (Below.refl w2.heap.size w2).drew x) (cell_heap (j := 1) (HH.out.below HBb.out).h rfl)
      have k2 := fun x => cellB (pin_in (Below.refl w2.heap.size w2).drew x) (cell_heap (j := 2) HR2.out rfl)
      have k3 := fun x => cellB (pin_in (Below.refl w2.heap.size w2).drew x) (cellB HBb.out HT.out.2.1)
      have k4 := fun x => cellB (pin_in (Below.refl w2.heap.size w2).drew x) (cellB HBb.out HT.out.2.2)
      go_wp2_with fail
      refine wp_region_tree ((Below w2.heap.size w2)) (fun k => ([18] : List Nat).contains k) (.take [1, 2, 4, 5, 6, 7, 8, 9, 10, 11, 12, 13, 14] (.fork 0 (.fork 3 (.step 15 (.step 16 (.step 17 (.step 18 .done)))) 15 (.step 3 (.step 16 (.step 17 (.step 18 .done))))) 15 (.step 0 (.step 3 (.step 16 (.step 17 (.step 18 .done))))))) (by kernel_rfl) (by kernel_rfl) (by kernel_rfl) (by kernel_rfl) (.take (.cons (.succ (.zero)) (.cons (.succ (.succ (.zero))) (.cons (.succ (.succ (.succ (.succ (.zero))))) (.cons (.succ (.succ (.succ (.succ (.succ (.zero)))))) (.cons (.succ (.succ (.succ (.succ (.succ (.succ (.zero))))))) (.cons (.succ (.succ (.succ (.succ (.succ (.succ (.succ (.zero)))))))) (.cons (.succ (.succ (.succ (.succ (.succ (.succ (.succ (.succ (.zero))))))))) (.cons (.succ (.succ (.succ (.succ (.succ (.succ (.succ (.succ (.succ (.zero)))))))))) (.cons (.succ (.succ (.succ (.succ (.succ (.succ (.succ (.succ (.succ (.succ (.zero))))))))))) (.cons (.succ (.succ (.succ (.succ (.succ (.succ (.succ (.succ (.succ (.succ (.succ (.zero)))))))))))) (.cons (.succ (.succ (.succ (.succ (.succ (.succ (.succ (.succ (.succ (.succ (.succ (.succ (.zero))))))))))))) (.cons (.succ (.succ (.succ (.succ (.succ (.succ (.succ (.succ (.succ (.succ (.succ (.succ (.succ (.zero)))))))))))))) (.cons (.succ (.succ (.succ (.succ (.succ (.succ (.succ (.succ (.succ (.succ (.succ (.succ (.succ (.succ (.zero))))))))))))))) .nil))))))))))))) (.fork (.zero) rfl (.fork (.succ (.succ (.succ (.zero)))) rfl (.step (.succ (.succ (.succ (.succ (.succ (.succ (.succ (.succ (.succ (.succ (.succ (.succ (.succ (.succ (.succ (.zero)))))))))))))))) rfl (.step (.succ (.succ (.succ (.succ (.succ (.succ (.succ (.succ (.succ (.succ (.succ (.succ (.succ (.succ (.succ (.succ (.zero))))))))))))))))) rfl (.step (.succ (.succ (.succ (.succ (.succ (.succ (.succ (.succ (.succ (.succ (.succ (.succ (.succ (.succ (.succ (.succ (.succ (.zero)))))))))))))))))) rfl (.step (.succ (.succ (.succ (.succ (.succ (.succ (.succ (.succ (.succ (.succ (.succ (.succ (.succ (.succ (.succ (.succ (.succ (.succ (.zero))))))))))))))))))) rfl .done)))) (.succ (.succ (.succ (.succ (.succ (.succ (.succ (.succ (.succ (.succ (.succ (.succ (.succ (.succ (.succ (.zero)))))))))))))))) rfl (.step (.succ (.succ (.succ (.zero)))) rfl (.step (.succ (.succ (.succ (.succ (.succ (.succ (.succ (.succ (.succ (.succ (.succ (.succ (.succ (.succ (.succ (.succ (.zero))))))))))))))))) rfl (.step (.succ (.succ (.succ (.succ (.succ (.succ (.succ (.succ (.succ (.succ (.succ (.succ (.succ (.succ (.succ (.succ (.succ (.zero)))))))))))))))))) rfl (.step (.succ (.succ (.succ (.succ (.succ (.succ (.succ (.succ (.succ (.succ (.succ (.succ (.succ (.succ (.succ (.succ (.succ (.succ (.zero))))))))))))))))))) rfl .done))))) (.succ (.succ (.succ (.succ (.succ (.succ (.succ (.succ (.succ (.succ (.succ (.succ (.succ (.succ (.succ (.zero)))))))))))))))) rfl (.step (.zero) rfl (.step (.succ (.succ (.succ (.zero)))) rfl (.step (.succ (.succ (.succ (.succ (.succ (.succ (.succ (.succ (.succ (.succ (.succ (.succ (.succ (.succ (.succ (.succ (.zero))))))))))))))))) rfl (.step (.succ (.succ (.succ (.succ (.succ (.succ (.succ (.succ (.succ (.succ (.succ (.succ (.succ (.succ (.succ (.succ (.succ (.zero)))))))))))))))))) rfl (.step (.succ (.succ (.succ (.succ (.succ (.succ (.succ (.succ (.succ (.succ (.succ (.succ (.succ (.succ (.succ (.succ (.succ (.succ (.zero))))))))))))))))))) rfl .done))))))) ?hQ ?hS ?_
      case hQ => exact fun _ _ _ _ _ h => h
      case hS => exact (Below.refl _ _).drew
      refine wpT_take ?_
      repeat (first | go_big_quiet_step ((fail)) | quiet_step ((fail)))
      refine wpQuiet_nil ?_
      have HB := hide (show Below w2.heap.size w2 w2.drew from (Below.refl _ _).drew)
      generalize w2.drew = x0 at *
      refine wpT_fork ?_ ?_
      · refine wpT_step rfl ?_
        intro K1 hK1
        go_wp2_with fail
        have HBq := hide (HB.out.alloc HB.out.size (Obj.cells #[] 24))
        have HOP := hide (World.ownsRow_made (e := 24) (size := 2) (base := w.heap.size) x0 #[] 0 (Nat.le_trans HS2.out HB.out.size) (Nat.zero_le _) rfl)
        have HOPB := hide (show ∀ g, (Value.slice (some ⟨x0.heap.size, 0, none⟩) 0 0).ownBlock = some g → w2.heap.size ≤ g from fun g e => by cases e; exact HB.out.size)
        refine hK1.out _ _ (fun _ => pin_mem HBq.out) ?_
        clear HB hK1; have HB := HBq; clear HBq
        generalize hb_bw : x0.heap.size = bw at *
        generalize x0.alloc (Obj.cells #[] 24) = x1 at *
        clear hb_bw
        refine wpT_fork ?_ ?_
        · refine wpT_step rfl ?_
          intro K1 hK1
          refine wp_src (.tmp 23) (.tmp 25) 42 rfl w.heap.size 24 qi _ 2 16 Try.underlying42 qz0 qz qs qb rfl (by decide) _ 0 [] rfl HOP.out Ap ps.length cp (posC ps) rfl (HPS.out.below (below_wide HBb.out HB.out)) (fun u hu => posC_one hu) ?c63 ?cby (Nat.le_trans HS2.out HB.out.size) ?_
          case c63 => unfold maxLen; omega
          case cby => omega
          intro u1 x2 hown hgrow hwh
          simp only [Nat.zero_add, List.nil_append] at hown ⊢
          have HBq := hide (HB.out.grown hgrow HB.out.size (fun g e => HOPB.out g e))
          have HOPn := hide (show ∀ g, u1.ownBlock = some g → w2.heap.size ≤ g from fun g e => hwh.elim (fun h1 => HOPB.out g (h1 ▸ e)) (fun h1 => by rw [h1] at e; cases e; exact HB.out.size))
          clear HOPB; have HOPB := HOPn; clear HOPn
          have HOPq := hide hown; clear HOP; have HOP := HOPq; clear HOPq
          refine hK1.out _ _ (fun _ => pin_mem HBq.out) ?_
          clear HB hK1 hown hgrow hwh; have HB := HBq; clear HBq
          refine wpT_step rfl ?_
          intro K1 hK1
          go_wp2_with fail
          have HBq := hide (HB.out.alloc HB.out.size (Obj.cells #[.int .i64 tk.l, .int .i64 tk.c] 24))
          have HOPq := hide (HOP.out.alloc (Obj.cells #[.int .i64 tk.l, .int .i64 tk.c] 24)); clear HOP; have HOP := HOPq; clear HOPq
          have HNB := hide (heap_new x2 (Obj.cells #[.int .i64 tk.l, .int .i64 tk.c] 24))
          refine hK1.out _ _ (fun _ => pin_mem HBq.out) ?_
          clear HB hK1; have HB := HBq; clear HBq
          generalize hb_nb : x2.heap.size = nb at *
          generalize x2.alloc (Obj.cells #[.int .i64 tk.l, .int .i64 tk.c] 24) = x3 at *
          clear hb_nb
          refine wpT_step rfl ?_
          intro K1 hK1
          refine wp_src (.tmp 26) (.tmp 38) 42 rfl w.heap.size 24 qi _ 2 16 Try.underlying42 qz0 qz qs qb rfl (by decide) _ ps.length (posC ps) rfl HOP.out (some ⟨nb, 0, none⟩) 1 1 [.int .i64 tk.l, .int .i64 tk.c] rfl (src_row (n := 1) (size := 2) HNB.out rfl) (fun u hu => by simp at hu; rcases hu with rfl | rfl <;> rfl) ?c63 ?cby (Nat.le_trans HS2.out HB.out.size) ?_
          case c63 => unfold maxLen; omega
          case cby => omega
          intro u3 x4 hown hgrow hwh
          have HBq := hide (HB.out.grown hgrow HB.out.size (fun g e => HOPB.out g e))
          have HOPn := hide (show ∀ g, u3.ownBlock = some g → w2.heap.size ≤ g from fun g e => hwh.elim (fun h1 => HOPB.out g (h1 ▸ e)) (fun h1 => by rw [h1] at e; cases e; exact HB.out.size))
          clear HOPB; have HOPB := HOPn; clear HOPn
          have HOPq := hide hown; clear HOP; have HOP := HOPq; clear HOPq
          refine hK1.out _ _ (fun _ => pin_mem HBq.out) ?_
          clear HB hK1 hown hgrow hwh; have HB := HBq; clear HBq
          refine wpT_step rfl ?_
          intro K1 hK1
          go_wp2_with fail
          refine hK1.out _ _ (fun _ => pin_mem HB.out) ?_
          clear hK1
          obtain ⟨A2, c2, hu3⟩ := own_slice HOP.out
          have hx4 := heapB HB.out HR2.out
          have hc4 := cell_heap (j := 2) hx4 rfl
          have hf4 := frozen_heap (j := 2) hx4
          subst hu3
          refine wpT_step rfl ?_
          intro K1 hK1
          go_wp2_with fail
          refine hK1.out _ _ (fun h => by cases h) ?_
          clear hK1
          refine wpT_done ?_
          clear hx4 hc4 hf4
          have HBc := hide ((below_lo HBb.out HB.out HS2.out).setCell (p := ⟨w.heap.size, 2, none⟩) (Nat.le_refl _) (.slice A2 (ps.length + 1) c2))
          have HR3 := hide (row_box2 (u := (.slice A2 (ps.length + 1) c2)) HR2.out HB.out)
          have HZ3 := hide (heap_far (p := ⟨w.heap.size, 2, none⟩) (u := (.slice A2 (ps.length + 1) c2)) (heapB HB.out HZ2.out) (by simp))
          have HW3 := hide (own_cell (j := 2) (u := (.slice A2 (ps.length + 1) c2)) (own_below HW2.out HB.out) (heapB HB.out HR2.out) (by decide))
          have HP3 := hide (own_cell (j := 2) (u := (.slice A2 (ps.length + 1) c2)) HOP.out (heapB HB.out HR2.out) (by decide))
          generalize x4.setCell ⟨w.heap.size, 2, none⟩ (.slice A2 (ps.length + 1) c2) = w3 at *
          clear HB HOP HNB HOPB HR2 HZ2 HW2 k0 k1 k2 k3 k4
          have hst := HH.out.below HBc.out
          have p1 := cell_heap (j := 1) hst.h rfl
          have f1 := frozen_heap (j := 1) hst.h
          have HS4 := hide (heap_set (j := 1) (u := .int .i64 (↑i + 1)) hst.h)
          have hr4 := heap_far (p := ⟨p, 1, none⟩) (u := .int .i64 (↑i + 1)) HR3.out (Nat.ne_of_gt HPW.out)
          have hz4 := heap_far (p := ⟨p, 1, none⟩) (u := .int .i64 (↑i + 1)) HZ3.out (Nat.ne_of_gt (Nat.lt_succ_of_lt HPW.out))
          have r0 := cell_heap (j := 0) hr4 rfl
          have r1 := cell_heap (j := 1) hr4 rfl
          have r2 := cell_heap (j := 2) hr4 rfl
          have r3 := cell_heap (j := 3) hr4 rfl
          have z0 := cell_heap (j := 0) hz4 rfl
          have z1 := cell_heap (j := 1) hz4 rfl
          have z2 := cell_heap (j := 2) hz4 rfl
          have z3 := cell_heap (j := 3) hz4 rfl
          have y0 := frozen_heap (j := 0) hz4
          have y1 := frozen_heap (j := 1) hz4
          have y2 := frozen_heap (j := 2) hz4
          have y3 := frozen_heap (j := 3) hz4
          have HO4 := hide (only_set (only_of_below (R := p) HBc.out) 1 (.int .i64 (↑i + 1)))
          have HSP := hide hst
          have HZ4 := hide hz4
          clear hst hr4 hz4
          go_wp2_with fail
          refine bodyPost_ret (v := .agg #[.int .i64 d, .slice A1 (ws.length + 1) c1, .slice A2 (ps.length + 1) c2, .bool b]) (by simp [results, Try.results70, go_sem, z0, z1, z2, z3]) rfl ?_
          have hoF := only_four HO4.out (Nat.le_succ w.heap.size) (.int .i64 d) (.slice A1 (ws.length + 1) c1) (.slice A2 (ps.length + 1) c2) (.bool b)
          exact ⟨hoF, HH.out.next hi hoF (far_four HS4.out (Nat.ne_of_lt (Nat.lt_succ_of_lt HPW.out)) _ _ _ _), _, _, rfl, own_four (own_cell HW3.out HSP.out.h (by decide)) HZ4.out (by decide) _ _ _ _, own_four (own_cell HP3.out HSP.out.h (by decide)) HZ4.out (by decide) _ _ _ _⟩
        · refine wpT_step rfl ?_
          intro K1 hK1
          go_wp2_with fail
          have HBq := hide (HB.out.alloc HB.out.size (Obj.cells #[.int .i64 tk.l, .int .i64 tk.c] 24))
          have HNe := hide (Nat.ne_of_lt ((HOP.out.lt _ rfl).2))
          have HOPq := hide (HOP.out.alloc (Obj.cells #[.int .i64 tk.l, .int .i64 tk.c] 24)); clear HOP; have HOP := HOPq; clear HOPq
          have HNB := hide (heap_new x1 (Obj.cells #[.int .i64 tk.l, .int .i64 tk.c] 24))
          refine hK1.out _ _ (fun _ => pin_mem HBq.out) ?_
          clear HB hK1; have HB := HBq; clear HBq
          generalize hb_nb : x1.heap.size = nb at *
          generalize x1.alloc (Obj.cells #[.int .i64 tk.l, .int .i64 tk.c] 24) = x2 at *
          clear hb_nb
          refine wpT_step rfl ?_
          intro K1 hK1
          refine wp_src (.tmp 23) (.tmp 25) 42 rfl w.heap.size 24 qi _ 2 16 Try.underlying42 qz0 qz qs qb rfl (by decide) _ 0 [] rfl HOP.out Ap ps.length cp (posC ps) rfl (HPS.out.below (below_wide HBb.out HB.out)) (fun u hu => posC_one hu) ?c63 ?cby (Nat.le_trans HS2.out HB.out.size) ?_
          case c63 => unfold maxLen; omega
          case cby => omega
          intro u2 x3 hown hgrow hwh
          simp only [Nat.zero_add, List.nil_append] at hown ⊢
          have HBq := hide (HB.out.grown hgrow HB.out.size (fun g e => HOPB.out g e))
          have HNq := hide (heap_grown HNB.out hgrow (fun e => HNe.out (Option.some.inj e))); clear HNB; have HNB := HNq; clear HNq
          have HOPn := hide (show ∀ g, u2.ownBlock = some g → w2.heap.size ≤ g from fun g e => hwh.elim (fun h1 => HOPB.out g (h1 ▸ e)) (fun h1 => by rw [h1] at e; cases e; exact HB.out.size))
          clear HOPB; have HOPB := HOPn; clear HOPn
          have HOPq := hide hown; clear HOP; have HOP := HOPq; clear HOPq
          refine hK1.out _ _ (fun _ => pin_mem HBq.out) ?_
          clear HB hK1 hown hgrow hwh; have HB := HBq; clear HBq
          refine wpT_step rfl ?_
          intro K1 hK1
          refine wp_src (.tmp 26) (.tmp 38) 42 rfl w.heap.size 24 qi _ 2 16 Try.underlying42 qz0 qz qs qb rfl (by decide) _ ps.length (posC ps) rfl HOP.out (some ⟨nb, 0, none⟩) 1 1 [.int .i64 tk.l, .int .i64 tk.c] rfl (src_row (n := 1) (size := 2) HNB.out rfl) (fun u hu => by simp at hu; rcases hu with rfl | rfl <;> rfl) ?c63 ?cby (Nat.le_trans HS2.out HB.out.size) ?_
          case c63 => unfold maxLen; omega
          case cby => omega
          intro u3 x4 hown hgrow hwh
          have HBq := hide (HB.out.grown hgrow HB.out.size (fun g e => HOPB.out g e))
          have HOPn := hide (show ∀ g, u3.ownBlock = some g → w2.heap.size ≤ g from fun g e => hwh.elim (fun h1 => HOPB.out g (h1 ▸ e)) (fun h1 => by rw [h1] at e; cases e; exact HB.out.size))
          clear HOPB; have HOPB := HOPn; clear HOPn
          have HOPq := hide hown; clear HOP; have HOP := HOPq; clear HOPq
          refine hK1.out _ _ (fun _ => pin_mem HBq.out) ?_
          clear HB hK1 hown hgrow hwh; have HB := HBq; clear HBq
          refine wpT_step rfl ?_
          intro K1 hK1
          go_wp2_with fail
          refine hK1.out _ _ (fun _ => pin_mem HB.out) ?_
          clear hK1
          obtain ⟨A2, c2, hu3⟩ := own_slice HOP.out
          have hx4 := heapB HB.out HR2.out
          have hc4 := cell_heap (j := 2) hx4 rfl
          have hf4 := frozen_heap (j := 2) hx4
          subst hu3
          refine wpT_step rfl ?_
          intro K1 hK1
          go_wp2_with fail
          refine hK1.out _ _ (fun h => by cases h) ?_
          clear hK1
          refine wpT_done ?_
          clear hx4 hc4 hf4
          have HBc := hide ((below_lo HBb.out HB.out HS2.out).setCell (p := ⟨w.heap.size, 2, none⟩) (Nat.le_refl _) (.slice A2 (ps.length + 1) c2))
          have HR3 := hide (row_box2 (u := (.slice A2 (ps.length + 1) c2)) HR2.out HB.out)
          have HZ3 := hide (heap_far (p := ⟨w.heap.size, 2, none⟩) (u := (.slice A2 (ps.length + 1) c2)) (heapB HB.out HZ2.out) (by simp))
          have HW3 := hide (own_cell (j := 2) (u := (.slice A2 (ps.length + 1) c2)) (own_below HW2.out HB.out) (heapB HB.out HR2.out) (by decide))
          have HP3 := hide (own_cell (j := 2) (u := (.slice A2 (ps.length + 1) c2)) HOP.out (heapB HB.out HR2.out) (by decide))
          generalize x4.setCell ⟨w.heap.size, 2, none⟩ (.slice A2 (ps.length + 1) c2) = w3 at *
          clear HB HOP HNB HOPB HR2 HZ2 HW2 k0 k1 k2 k3 k4
          have hst := HH.out.below HBc.out
          have p1 := cell_heap (j := 1) hst.h rfl
          have f1 := frozen_heap (j := 1) hst.h
          have HS4 := hide (heap_set (j := 1) (u := .int .i64 (↑i + 1)) hst.h)
          have hr4 := heap_far (p := ⟨p, 1, none⟩) (u := .int .i64 (↑i + 1)) HR3.out (Nat.ne_of_gt HPW.out)
          have hz4 := heap_far (p := ⟨p, 1, none⟩) (u := .int .i64 (↑i + 1)) HZ3.out (Nat.ne_of_gt (Nat.lt_succ_of_lt HPW.out))
          have r0 := cell_heap (j := 0) hr4 rfl
          have r1 := cell_heap (j := 1) hr4 rfl
          have r2 := cell_heap (j := 2) hr4 rfl
          have r3 := cell_heap (j := 3) hr4 rfl
          have z0 := cell_heap (j := 0) hz4 rfl
          have z1 := cell_heap (j := 1) hz4 rfl
          have z2 := cell_heap (j := 2) hz4 rfl
          have z3 := cell_heap (j := 3) hz4 rfl
          have y0 := frozen_heap (j := 0) hz4
          have y1 := frozen_heap (j := 1) hz4
          have y2 := frozen_heap (j := 2) hz4
          have y3 := frozen_heap (j := 3) hz4
          have HO4 := hide (only_set (only_of_below (R := p) HBc.out) 1 (.int .i64 (↑i + 1)))
          have HSP := hide hst
          have HZ4 := hide hz4
          clear hst hr4 hz4
          go_wp2_with fail
          refine bodyPost_ret (v := .agg #[.int .i64 d, .slice A1 (ws.length + 1) c1, .slice A2 (ps.length + 1) c2, .bool b]) (by simp [results, Try.results70, go_sem, z0, z1, z2, z3]) rfl ?_
          have hoF := only_four HO4.out (Nat.le_succ w.heap.size) (.int .i64 d) (.slice A1 (ws.length + 1) c1) (.slice A2 (ps.length + 1) c2) (.bool b)
          exact ⟨hoF, HH.out.next hi hoF (far_four HS4.out (Nat.ne_of_lt (Nat.lt_succ_of_lt HPW.out)) _ _ _ _), _, _, rfl, own_four (own_cell HW3.out HSP.out.h (by decide)) HZ4.out (by decide) _ _ _ _, own_four (own_cell HP3.out HSP.out.h (by decide)) HZ4.out (by decide) _ _ _ _⟩
      · refine wpT_step rfl ?_
        intro K1 hK1
        go_wp2_with fail
        have HBq := hide (HB.out.alloc HB.out.size (Obj.cells #[.int .i64 tk.l, .int .i64 tk.c] 24))
        have HNB := hide (heap_new x0 (Obj.cells #[.int .i64 tk.l, .int .i64 tk.c] 24))
        refine hK1.out _ _ (fun _ => pin_mem HBq.out) ?_
        clear HB hK1; have HB := HBq; clear HBq
        generalize hb_nb : x0.heap.size = nb at *
        generalize x0.alloc (Obj.cells #[.int .i64 tk.l, .int .i64 tk.c] 24) = x1 at *
        clear hb_nb
        refine wpT_step rfl ?_
        intro K1 hK1
        go_wp2_with fail
        have HBq := hide (HB.out.alloc HB.out.size (Obj.cells #[] 24))
        have HNe := hide (Nat.ne_of_gt (lt_heap HNB.out))
        have HNq := hide (heap_old (p := (Obj.cells #[] 24)) HNB.out); clear HNB; have HNB := HNq; clear HNq
        have HOP := hide (World.ownsRow_made (e := 24) (size := 2) (base := w.heap.size) x1 #[] 0 (Nat.le_trans HS2.out HB.out.size) (Nat.zero_le _) rfl)
        have HOPB := hide (show ∀ g, (Value.slice (some ⟨x1.heap.size, 0, none⟩) 0 0).ownBlock = some g → w2.heap.size ≤ g from fun g e => by cases e; exact HB.out.size)
        refine hK1.out _ _ (fun _ => pin_mem HBq.out) ?_
        clear HB hK1; have HB := HBq; clear HBq
        generalize hb_bw : x1.heap.size = bw at *
        generalize x1.alloc (Obj.cells #[] 24) = x2 at *
        clear hb_bw
        refine wpT_step rfl ?_
        intro K1 hK1
        refine wp_src (.tmp 23) (.tmp 25) 42 rfl w.heap.size 24 qi _ 2 16 Try.underlying42 qz0 qz qs qb rfl (by decide) _ 0 [] rfl HOP.out Ap ps.length cp (posC ps) rfl (HPS.out.below (below_wide HBb.out HB.out)) (fun u hu => posC_one hu) ?c63 ?cby (Nat.le_trans HS2.out HB.out.size) ?_
        case c63 => unfold maxLen; omega
        case cby => omega
        intro u2 x3 hown hgrow hwh
        simp only [Nat.zero_add, List.nil_append] at hown ⊢
        have HBq := hide (HB.out.grown hgrow HB.out.size (fun g e => HOPB.out g e))
        have HNq := hide (heap_grown HNB.out hgrow (fun e => HNe.out (Option.some.inj e))); clear HNB; have HNB := HNq; clear HNq
        have HOPn := hide (show ∀ g, u2.ownBlock = some g → w2.heap.size ≤ g from fun g e => hwh.elim (fun h1 => HOPB.out g (h1 ▸ e)) (fun h1 => by rw [h1] at e; cases e; exact HB.out.size))
        clear HOPB; have HOPB := HOPn; clear HOPn
        have HOPq := hide hown; clear HOP; have HOP := HOPq; clear HOPq
        refine hK1.out _ _ (fun _ => pin_mem HBq.out) ?_
        clear HB hK1 hown hgrow hwh; have HB := HBq; clear HBq
        refine wpT_step rfl ?_
        intro K1 hK1
        refine wp_src (.tmp 26) (.tmp 38) 42 rfl w.heap.size 24 qi _ 2 16 Try.underlying42 qz0 qz qs qb rfl (by decide) _ ps.length (posC ps) rfl HOP.out (some ⟨nb, 0, none⟩) 1 1 [.int .i64 tk.l, .int .i64 tk.c] rfl (src_row (n := 1) (size := 2) HNB.out rfl) (fun u hu => by simp at hu; rcases hu with rfl | rfl <;> rfl) ?c63 ?cby (Nat.le_trans HS2.out HB.out.size) ?_
        case c63 => unfold maxLen; omega
        case cby => omega
        intro u3 x4 hown hgrow hwh
        have HBq := hide (HB.out.grown hgrow HB.out.size (fun g e => HOPB.out g e))
        have HOPn := hide (show ∀ g, u3.ownBlock = some g → w2.heap.size ≤ g from fun g e => hwh.elim (fun h1 => HOPB.out g (h1 ▸ e)) (fun h1 => by rw [h1] at e; cases e; exact HB.out.size))
        clear HOPB; have HOPB := HOPn; clear HOPn
        have HOPq := hide hown; clear HOP; have HOP := HOPq; clear HOPq
        refine hK1.out _ _ (fun _ => pin_mem HBq.out) ?_
        clear HB hK1 hown hgrow hwh; have HB := HBq; clear HBq
        refine wpT_step rfl ?_
        intro K1 hK1
        go_wp2_with fail
        refine hK1.out _ _ (fun _ => pin_mem HB.out) ?_
        clear hK1
        obtain ⟨A2, c2, hu3⟩ := own_slice HOP.out
        have hx4 := heapB HB.out HR2.out
        have hc4 := cell_heap (j := 2) hx4 rfl
        have hf4 := frozen_heap (j := 2) hx4
        subst hu3
        refine wpT_step rfl ?_
        intro K1 hK1
        go_wp2_with fail
        refine hK1.out _ _ (fun h => by cases h) ?_
        clear hK1
        refine wpT_done ?_
        clear hx4 hc4 hf4
        have HBc := hide ((below_lo HBb.out HB.out HS2.out).setCell (p := ⟨w.heap.size, 2, none⟩) (Nat.le_refl _) (.slice A2 (ps.length + 1) c2))
        have HR3 := hide (row_box2 (u := (.slice A2 (ps.length + 1) c2)) HR2.out HB.out)
        have HZ3 := hide (heap_far (p := ⟨w.heap.size, 2, none⟩) (u := (.slice A2 (ps.length + 1) c2)) (heapB HB.out HZ2.out) (by simp))
        have HW3 := hide (own_cell (j := 2) (u := (.slice A2 (ps.length + 1) c2)) (own_below HW2.out HB.out) (heapB HB.out HR2.out) (by decide))
        have HP3 := hide (own_cell (j := 2) (u := (.slice A2 (ps.length + 1) c2)) HOP.out (heapB HB.out HR2.out) (by decide))
        generalize x4.setCell ⟨w.heap.size, 2, none⟩ (.slice A2 (ps.length + 1) c2) = w3 at *
        clear HB HOP HNB HOPB HR2 HZ2 HW2 k0 k1 k2 k3 k4
        have hst := HH.out.below HBc.out
        have p1 := cell_heap (j := 1) hst.h rfl
        have f1 := frozen_heap (j := 1) hst.h
        have HS4 := hide (heap_set (j := 1) (u := .int .i64 (↑i + 1)) hst.h)
        have hr4 := heap_far (p := ⟨p, 1, none⟩) (u := .int .i64 (↑i + 1)) HR3.out (Nat.ne_of_gt HPW.out)
        have hz4 := heap_far (p := ⟨p, 1, none⟩) (u := .int .i64 (↑i + 1)) HZ3.out (Nat.ne_of_gt (Nat.lt_succ_of_lt HPW.out))
        have r0 := cell_heap (j := 0) hr4 rfl
        have r1 := cell_heap (j := 1) hr4 rfl
        have r2 := cell_heap (j := 2) hr4 rfl
        have r3 := cell_heap (j := 3) hr4 rfl
        have z0 := cell_heap (j := 0) hz4 rfl
        have z1 := cell_heap (j := 1) hz4 rfl
        have z2 := cell_heap (j := 2) hz4 rfl
        have z3 := cell_heap (j := 3) hz4 rfl
        have y0 := frozen_heap (j := 0) hz4
        have y1 := frozen_heap (j := 1) hz4
        have y2 := frozen_heap (j := 2) hz4
        have y3 := frozen_heap (j := 3) hz4
        have HO4 := hide (only_set (only_of_below (R := p) HBc.out) 1 (.int .i64 (↑i + 1)))
        have HSP := hide hst
        have HZ4 := hide hz4
        clear hst hr4 hz4
        go_wp2_with fail
        refine bodyPost_ret (v := .agg #[.int .i64 d, .slice A1 (ws.length + 1) c1, .slice A2 (ps.length + 1) c2, .bool b]) (by simp [results, Try.results70, go_sem, z0, z1, z2, z3]) rfl ?_
        have hoF := only_four HO4.out (Nat.le_succ w.heap.size) (.int .i64 d) (.slice A1 (ws.length + 1) c1) (.slice A2 (ps.length + 1) c2) (.bool b)
        exact ⟨hoF, HH.out.next hi hoF (far_four HS4.out (Nat.ne_of_lt (Nat.lt_succ_of_lt HPW.out)) _ _ _ _), _, _, rfl, own_four (own_cell HW3.out HSP.out.h (by decide)) HZ4.out (by decide) _ _ _ _, own_four (own_cell HP3.out HSP.out.h (by decide)) HZ4.out (by decide) _ _ _ _⟩
    · refine wpT_step rfl ?_
      intro K1 hK1
      go_wp2_with fail
      have HBq := hide (HB.out.alloc HB.out.size (Obj.cells #[.string tk.b] 9))
      have HNe := hide (Nat.ne_of_lt ((HOW.out.lt _ rfl).2))
      have HOWq := hide (HOW.out.alloc (Obj.cells #[.string tk.b] 9)); clear HOW; have HOW := HOWq; clear HOWq
      have HNB := hide (heap_new x1 (Obj.cells #[.string tk.b] 9))
      refine hK1.out _ _ (fun _ => pin_mem HBq.out) ?_
      clear HB hK1; have HB := HBq; clear HBq
      generalize hb_nb : x1.heap.size = nb at *
      generalize x1.alloc (Obj.cells #[.string tk.b] 9) = x2 at *
      clear hb_nb
      refine wpT_step rfl ?_
      intro K1 hK1
      refine wp_src (.tmp 5) (.tmp 7) 41 rfl w.heap.size 9 si _ 1 16 Try.underlying41 sz0 sz ss sb2 rfl (by decide) _ 0 [] rfl HOW.out Aw ws.length cw (ws.map Value.string) rfl (HWS.out.below (below_wide HBa.out HB.out)) (fun u hu => str_one hu) ?c63 ?cby (Nat.le_trans HS1.out HB.out.size) ?_
      case c63 => unfold maxLen; omega
      case cby => omega
      intro u2 x3 hown hgrow hwh
      simp only [Nat.zero_add, List.nil_append] at hown ⊢
      have HBq := hide (HB.out.grown hgrow HB.out.size (fun g e => HOWB.out g e))
      have HNq := hide (heap_grown HNB.out hgrow (fun e => HNe.out (Option.some.inj e))); clear HNB; have HNB := HNq; clear HNq
      have HOWn := hide (show ∀ g, u2.ownBlock = some g → w1.heap.size ≤ g from fun g e => hwh.elim (fun h1 => HOWB.out g (h1 ▸ e)) (fun h1 => by rw [h1] at e; cases e; exact HB.out.size))
      clear HOWB; have HOWB := HOWn; clear HOWn
      have HOWq := hide hown; clear HOW; have HOW := HOWq; clear HOWq
      refine hK1.out _ _ (fun _ => pin_mem HBq.out) ?_
      clear HB hK1 hown hgrow hwh; have HB := HBq; clear HBq
      refine wpT_step rfl ?_
      intro K1 hK1
      refine wp_src (.tmp 8) (.tmp 20) 41 rfl w.heap.size 9 si _ 1 16 Try.underlying41 sz0 sz ss sb2 rfl (by decide) _ ws.length (ws.map Value.string) rfl HOW.out (some ⟨nb, 0, none⟩) 1 1 [.string tk.b] rfl (src_row (n := 1) (size := 1) HNB.out rfl) (fun u hu => by simp at hu; rw [hu]; rfl) ?c63 ?cby (Nat.le_trans HS1.out HB.out.size) ?_
      case c63 => unfold maxLen; omega
      case cby => omega
      intro u3 x4 hown hgrow hwh
      have HBq := hide (HB.out.grown hgrow HB.out.size (fun g e => HOWB.out g e))
      have HOWn := hide (show ∀ g, u3.ownBlock = some g → w1.heap.size ≤ g from fun g e => hwh.elim (fun h1 => HOWB.out g (h1 ▸ e)) (fun h1 => by rw [h1] at e; cases e; exact HB.out.size))
      clear HOWB; have HOWB := HOWn; clear HOWn
      have HOWq := hide hown; clear HOW; have HOW := HOWq; clear HOWq
      refine hK1.out _ _ (fun _ => pin_mem HBq.out) ?_
      clear HB hK1 hown hgrow hwh; have HB := HBq; clear HBq
      refine wpT_step rfl ?_
      intro K1 hK1
      go_wp2_with fail
      refine hK1.out _ _ (fun _ => pin_mem HB.out) ?_
      clear hK1
      obtain ⟨A1, c1, hu3⟩ := own_slice HOW.out
      have hx4 := heapB HB.out HR1.out
      have hc4 := cell_heap (j := 1) hx4 rfl
      have hf4 := frozen_heap (j := 1) hx4
      subst hu3
      refine wpT_step rfl ?_
      intro K1 hK1
      go_wp2_with fail
      refine hK1.out _ _ (fun h => by cases h) ?_
      clear hK1
      refine wpT_done ?_
      clear hx4 hc4 hf4
      have HBb := hide ((below_lo HBa.out HB.out HS1.out).setCell (p := ⟨w.heap.size, 1, none⟩) (Nat.le_refl _) (.slice A1 (ws.length + 1) c1))
      have HR2 := hide (row_box (u := (.slice A1 (ws.length + 1) c1)) HR1.out HB.out)
      have HZ2 := hide (heap_far (p := ⟨w.heap.size, 1, none⟩) (u := (.slice A1 (ws.length + 1) c1)) (heapB HB.out HZ1.out) (by simp))
      have HW2 := hide (own_cell (j := 1) (u := (.slice A1 (ws.length + 1) c1)) HOW.out (heapB HB.out HR1.out) (by decide))
      have HS2 := hide HBb.out.size
      generalize x4.setCell ⟨w.heap.size, 1, none⟩ (.slice A1 (ws.length + 1) c1) = w2 at *
      clear HB HOW HNB HOWB HR1 HZ1 k0 k1 k2 k3
      have k0 := fun x => cellB (pin_in (Below.refl w2.heap.size w2).drew x) (cell_heap (j := 0) (HH.out.below HBb.out).h rfl)
      have k1 := fun x => cellB (pin_in (Below.refl w2.heap.size w2).drew x) (cell_heap (j := 1) (HH.out.below HBb.out).h rfl)
      have k2 := fun x => cellB (pin_in (Below.refl w2.heap.size w2).drew x) (cell_heap (j := 2) HR2.out rfl)
      have k3 := fun x => cellB (pin_in (Below.refl w2.heap.size w2).drew x) (cellB HBb.out HT.out.2.1)
      have k4 := fun x => cellB (pin_in (Below.refl w2.heap.size w2).drew x) (cellB HBb.out HT.out.2.2)
      go_wp2_with fail
      refine wp_region_tree ((Below w2.heap.size w2)) (fun k => ([18] : List Nat).contains k) (.take [1, 2, 4, 5, 6, 7, 8, 9, 10, 11, 12, 13, 14] (.fork 0 (.fork 3 (.step 15 (.step 16 (.step 17 (.step 18 .done)))) 15 (.step 3 (.step 16 (.step 17 (.step 18 .done))))) 15 (.step 0 (.step 3 (.step 16 (.step 17 (.step 18 .done))))))) (by kernel_rfl) (by kernel_rfl) (by kernel_rfl) (by kernel_rfl) (.take (.cons (.succ (.zero)) (.cons (.succ (.succ (.zero))) (.cons (.succ (.succ (.succ (.succ (.zero))))) (.cons (.succ (.succ (.succ (.succ (.succ (.zero)))))) (.cons (.succ (.succ (.succ (.succ (.succ (.succ (.zero))))))) (.cons (.succ (.succ (.succ (.succ (.succ (.succ (.succ (.zero)))))))) (.cons (.succ (.succ (.succ (.succ (.succ (.succ (.succ (.succ (.zero))))))))) (.cons (.succ (.succ (.succ (.succ (.succ (.succ (.succ (.succ (.succ (.zero)))))))))) (.cons (.succ (.succ (.succ (.succ (.succ (.succ (.succ (.succ (.succ (.succ (.zero))))))))))) (.cons (.succ (.succ (.succ (.succ (.succ (.succ (.succ (.succ (.succ (.succ (.succ (.zero)))))))))))) (.cons (.succ (.succ (.succ (.succ (.succ (.succ (.succ (.succ (.succ (.succ (.succ (.succ (.zero))))))))))))) (.cons (.succ (.succ (.succ (.succ (.succ (.succ (.succ (.succ (.succ (.succ (.succ (.succ (.succ (.zero)))))))))))))) (.cons (.succ (.succ (.succ (.succ (.succ (.succ (.succ (.succ (.succ (.succ (.succ (.succ (.succ (.succ (.zero))))))))))))))) .nil))))))))))))) (.fork (.zero) rfl (.fork (.succ (.succ (.succ (.zero)))) rfl (.step (.succ (.succ (.succ (.succ (.succ (.succ (.succ (.succ (.succ (.succ (.succ (.succ (.succ (.succ (.succ (.zero)))))))))))))))) rfl (.step (.succ (.succ (.succ (.succ (.succ (.succ (.succ (.succ (.succ (.succ (.succ (.succ (.succ (.succ (.succ (.succ (.zero))))))))))))))))) rfl (.step (.succ (.succ (.succ (.succ (.succ (.succ (.succ (.succ (.succ (.succ (.succ (.succ (.succ (.succ (.succ (.succ (.succ (.zero)))))))))))))))))) rfl (.step (.succ (.succ (.succ (.succ (.succ (.succ (.succ (.succ (.succ (.succ (.succ (.succ (.succ (.succ (.succ (.succ (.succ (.succ (.zero))))))))))))))))))) rfl .done)))) (.succ (.succ (.succ (.succ (.succ (.succ (.succ (.succ (.succ (.succ (.succ (.succ (.succ (.succ (.succ (.zero)))))))))))))))) rfl (.step (.succ (.succ (.succ (.zero)))) rfl (.step (.succ (.succ (.succ (.succ (.succ (.succ (.succ (.succ (.succ (.succ (.succ (.succ (.succ (.succ (.succ (.succ (.zero))))))))))))))))) rfl (.step (.succ (.succ (.succ (.succ (.succ (.succ (.succ (.succ (.succ (.succ (.succ (.succ (.succ (.succ (.succ (.succ (.succ (.zero)))))))))))))))))) rfl (.step (.succ (.succ (.succ (.succ (.succ (.succ (.succ (.succ (.succ (.succ (.succ (.succ (.succ (.succ (.succ (.succ (.succ (.succ (.zero))))))))))))))))))) rfl .done))))) (.succ (.succ (.succ (.succ (.succ (.succ (.succ (.succ (.succ (.succ (.succ (.succ (.succ (.succ (.succ (.zero)))))))))))))))) rfl (.step (.zero) rfl (.step (.succ (.succ (.succ (.zero)))) rfl (.step (.succ (.succ (.succ (.succ (.succ (.succ (.succ (.succ (.succ (.succ (.succ (.succ (.succ (.succ (.succ (.succ (.zero))))))))))))))))) rfl (.step (.succ (.succ (.succ (.succ (.succ (.succ (.succ (.succ (.succ (.succ (.succ (.succ (.succ (.succ (.succ (.succ (.succ (.zero)))))))))))))))))) rfl (.step (.succ (.succ (.succ (.succ (.succ (.succ (.succ (.succ (.succ (.succ (.succ (.succ (.succ (.succ (.succ (.succ (.succ (.succ (.zero))))))))))))))))))) rfl .done))))))) ?hQ ?hS ?_
      case hQ => exact fun _ _ _ _ _ h => h
      case hS => exact (Below.refl _ _).drew
      refine wpT_take ?_
      repeat (first | go_big_quiet_step ((fail)) | quiet_step ((fail)))
      refine wpQuiet_nil ?_
      have HB := hide (show Below w2.heap.size w2 w2.drew from (Below.refl _ _).drew)
      generalize w2.drew = x0 at *
      refine wpT_fork ?_ ?_
      · refine wpT_step rfl ?_
        intro K1 hK1
        go_wp2_with fail
        have HBq := hide (HB.out.alloc HB.out.size (Obj.cells #[] 24))
        have HOP := hide (World.ownsRow_made (e := 24) (size := 2) (base := w.heap.size) x0 #[] 0 (Nat.le_trans HS2.out HB.out.size) (Nat.zero_le _) rfl)
        have HOPB := hide (show ∀ g, (Value.slice (some ⟨x0.heap.size, 0, none⟩) 0 0).ownBlock = some g → w2.heap.size ≤ g from fun g e => by cases e; exact HB.out.size)
        refine hK1.out _ _ (fun _ => pin_mem HBq.out) ?_
        clear HB hK1; have HB := HBq; clear HBq
        generalize hb_bw : x0.heap.size = bw at *
        generalize x0.alloc (Obj.cells #[] 24) = x1 at *
        clear hb_bw
        refine wpT_fork ?_ ?_
        · refine wpT_step rfl ?_
          intro K1 hK1
          refine wp_src (.tmp 23) (.tmp 25) 42 rfl w.heap.size 24 qi _ 2 16 Try.underlying42 qz0 qz qs qb rfl (by decide) _ 0 [] rfl HOP.out Ap ps.length cp (posC ps) rfl (HPS.out.below (below_wide HBb.out HB.out)) (fun u hu => posC_one hu) ?c63 ?cby (Nat.le_trans HS2.out HB.out.size) ?_
          case c63 => unfold maxLen; omega
          case cby => omega
          intro u1 x2 hown hgrow hwh
          simp only [Nat.zero_add, List.nil_append] at hown ⊢
          have HBq := hide (HB.out.grown hgrow HB.out.size (fun g e => HOPB.out g e))
          have HOPn := hide (show ∀ g, u1.ownBlock = some g → w2.heap.size ≤ g from fun g e => hwh.elim (fun h1 => HOPB.out g (h1 ▸ e)) (fun h1 => by rw [h1] at e; cases e; exact HB.out.size))
          clear HOPB; have HOPB := HOPn; clear HOPn
          have HOPq := hide hown; clear HOP; have HOP := HOPq; clear HOPq
          refine hK1.out _ _ (fun _ => pin_mem HBq.out) ?_
          clear HB hK1 hown hgrow hwh; have HB := HBq; clear HBq
          refine wpT_step rfl ?_
          intro K1 hK1
          go_wp2_with fail
          have HBq := hide (HB.out.alloc HB.out.size (Obj.cells #[.int .i64 tk.l, .int .i64 tk.c] 24))
          have HOPq := hide (HOP.out.alloc (Obj.cells #[.int .i64 tk.l, .int .i64 tk.c] 24)); clear HOP; have HOP := HOPq; clear HOPq
          have HNB := hide (heap_new x2 (Obj.cells #[.int .i64 tk.l, .int .i64 tk.c] 24))
          refine hK1.out _ _ (fun _ => pin_mem HBq.out) ?_
          clear HB hK1; have HB := HBq; clear HBq
          generalize hb_nb : x2.heap.size = nb at *
          generalize x2.alloc (Obj.cells #[.int .i64 tk.l, .int .i64 tk.c] 24) = x3 at *
          clear hb_nb
          refine wpT_step rfl ?_
          intro K1 hK1
          refine wp_src (.tmp 26) (.tmp 38) 42 rfl w.heap.size 24 qi _ 2 16 Try.underlying42 qz0 qz qs qb rfl (by decide) _ ps.length (posC ps) rfl HOP.out (some ⟨nb, 0, none⟩) 1 1 [.int .i64 tk.l, .int .i64 tk.c] rfl (src_row (n := 1) (size := 2) HNB.out rfl) (fun u hu => by simp at hu; rcases hu with rfl | rfl <;> rfl) ?c63 ?cby (Nat.le_trans HS2.out HB.out.size) ?_
          case c63 => unfold maxLen; omega
          case cby => omega
          intro u3 x4 hown hgrow hwh
          have HBq := hide (HB.out.grown hgrow HB.out.size (fun g e => HOPB.out g e))
          have HOPn := hide (show ∀ g, u3.ownBlock = some g → w2.heap.size ≤ g from fun g e => hwh.elim (fun h1 => HOPB.out g (h1 ▸ e)) (fun h1 => by rw [h1] at e; cases e; exact HB.out.size))
          clear HOPB; have HOPB := HOPn; clear HOPn
          have HOPq := hide hown; clear HOP; have HOP := HOPq; clear HOPq
          refine hK1.out _ _ (fun _ => pin_mem HBq.out) ?_
          clear HB hK1 hown hgrow hwh; have HB := HBq; clear HBq
          refine wpT_step rfl ?_
          intro K1 hK1
          go_wp2_with fail
          refine hK1.out _ _ (fun _ => pin_mem HB.out) ?_
          clear hK1
          obtain ⟨A2, c2, hu3⟩ := own_slice HOP.out
          have hx4 := heapB HB.out HR2.out
          have hc4 := cell_heap (j := 2) hx4 rfl
          have hf4 := frozen_heap (j := 2) hx4
          subst hu3
          refine wpT_step rfl ?_
          intro K1 hK1
          go_wp2_with fail
          refine hK1.out _ _ (fun h => by cases h) ?_
          clear hK1
          refine wpT_done ?_
          clear hx4 hc4 hf4
          have HBc := hide ((below_lo HBb.out HB.out HS2.out).setCell (p := ⟨w.heap.size, 2, none⟩) (Nat.le_refl _) (.slice A2 (ps.length + 1) c2))
          have HR3 := hide (row_box2 (u := (.slice A2 (ps.length + 1) c2)) HR2.out HB.out)
          have HZ3 := hide (heap_far (p := ⟨w.heap.size, 2, none⟩) (u := (.slice A2 (ps.length + 1) c2)) (heapB HB.out HZ2.out) (by simp))
          have HW3 := hide (own_cell (j := 2) (u := (.slice A2 (ps.length + 1) c2)) (own_below HW2.out HB.out) (heapB HB.out HR2.out) (by decide))
          have HP3 := hide (own_cell (j := 2) (u := (.slice A2 (ps.length + 1) c2)) HOP.out (heapB HB.out HR2.out) (by decide))
          generalize x4.setCell ⟨w.heap.size, 2, none⟩ (.slice A2 (ps.length + 1) c2) = w3 at *
          clear HB HOP HNB HOPB HR2 HZ2 HW2 k0 k1 k2 k3 k4
          have hst := HH.out.below HBc.out
          have p1 := cell_heap (j := 1) hst.h rfl
          have f1 := frozen_heap (j := 1) hst.h
          have HS4 := hide (heap_set (j := 1) (u := .int .i64 (↑i + 1)) hst.h)
          have hr4 := heap_far (p := ⟨p, 1, none⟩) (u := .int .i64 (↑i + 1)) HR3.out (Nat.ne_of_gt HPW.out)
          have hz4 := heap_far (p := ⟨p, 1, none⟩) (u := .int .i64 (↑i + 1)) HZ3.out (Nat.ne_of_gt (Nat.lt_succ_of_lt HPW.out))
          have r0 := cell_heap (j := 0) hr4 rfl
          have r1 := cell_heap (j := 1) hr4 rfl
          have r2 := cell_heap (j := 2) hr4 rfl
          have r3 := cell_heap (j := 3) hr4 rfl
          have z0 := cell_heap (j := 0) hz4 rfl
          have z1 := cell_heap (j := 1) hz4 rfl
          have z2 := cell_heap (j := 2) hz4 rfl
          have z3 := cell_heap (j := 3) hz4 rfl
          have y0 := frozen_heap (j := 0) hz4
          have y1 := frozen_heap (j := 1) hz4
          have y2 := frozen_heap (j := 2) hz4
          have y3 := frozen_heap (j := 3) hz4
          have HO4 := hide (only_set (only_of_below (R := p) HBc.out) 1 (.int .i64 (↑i + 1)))
          have HSP := hide hst
          have HZ4 := hide hz4
          clear hst hr4 hz4
          go_wp2_with fail
          refine bodyPost_ret (v := .agg #[.int .i64 d, .slice A1 (ws.length + 1) c1, .slice A2 (ps.length + 1) c2, .bool b]) (by simp [results, Try.results70, go_sem, z0, z1, z2, z3]) rfl ?_
          have hoF := only_four HO4.out (Nat.le_succ w.heap.size) (.int .i64 d) (.slice A1 (ws.length + 1) c1) (.slice A2 (ps.length + 1) c2) (.bool b)
          exact ⟨hoF, HH.out.next hi hoF (far_four HS4.out (Nat.ne_of_lt (Nat.lt_succ_of_lt HPW.out)) _ _ _ _), _, _, rfl, own_four (own_cell HW3.out HSP.out.h (by decide)) HZ4.out (by decide) _ _ _ _, own_four (own_cell HP3.out HSP.out.h (by decide)) HZ4.out (by decide) _ _ _ _⟩
        · refine wpT_step rfl ?_
          intro K1 hK1
          go_wp2_with fail
          have HBq := hide (HB.out.alloc HB.out.size (Obj.cells #[.int .i64 tk.l, .int .i64 tk.c] 24))
          have HNe := hide (Nat.ne_of_lt ((HOP.out.lt _ rfl).2))
          have HOPq := hide (HOP.out.alloc (Obj.cells #[.int .i64 tk.l, .int .i64 tk.c] 24)); clear HOP; have HOP := HOPq; clear HOPq
          have HNB := hide (heap_new x1 (Obj.cells #[.int .i64 tk.l, .int .i64 tk.c] 24))
          refine hK1.out _ _ (fun _ => pin_mem HBq.out) ?_
          clear HB hK1; have HB := HBq; clear HBq
          generalize hb_nb : x1.heap.size = nb at *
          generalize x1.alloc (Obj.cells #[.int .i64 tk.l, .int .i64 tk.c] 24) = x2 at *
          clear hb_nb
          refine wpT_step rfl ?_
          intro K1 hK1
          refine wp_src (.tmp 23) (.tmp 25) 42 rfl w.heap.size 24 qi _ 2 16 Try.underlying42 qz0 qz qs qb rfl (by decide) _ 0 [] rfl HOP.out Ap ps.length cp (posC ps) rfl (HPS.out.below (below_wide HBb.out HB.out)) (fun u hu => posC_one hu) ?c63 ?cby (Nat.le_trans HS2.out HB.out.size) ?_
          case c63 => unfold maxLen; omega
          case cby => omega
          intro u2 x3 hown hgrow hwh
          simp only [Nat.zero_add, List.nil_append] at hown ⊢
          have HBq := hide (HB.out.grown hgrow HB.out.size (fun g e => HOPB.out g e))
          have HNq := hide (heap_grown HNB.out hgrow (fun e => HNe.out (Option.some.inj e))); clear HNB; have HNB := HNq; clear HNq
          have HOPn := hide (show ∀ g, u2.ownBlock = some g → w2.heap.size ≤ g from fun g e => hwh.elim (fun h1 => HOPB.out g (h1 ▸ e)) (fun h1 => by rw [h1] at e; cases e; exact HB.out.size))
          clear HOPB; have HOPB := HOPn; clear HOPn
          have HOPq := hide hown; clear HOP; have HOP := HOPq; clear HOPq
          refine hK1.out _ _ (fun _ => pin_mem HBq.out) ?_
          clear HB hK1 hown hgrow hwh; have HB := HBq; clear HBq
          refine wpT_step rfl ?_
          intro K1 hK1
          refine wp_src (.tmp 26) (.tmp 38) 42 rfl w.heap.size 24 qi _ 2 16 Try.underlying42 qz0 qz qs qb rfl (by decide) _ ps.length (posC ps) rfl HOP.out (some ⟨nb, 0, none⟩) 1 1 [.int .i64 tk.l, .int .i64 tk.c] rfl (src_row (n := 1) (size := 2) HNB.out rfl) (fun u hu => by simp at hu; rcases hu with rfl | rfl <;> rfl) ?c63 ?cby (Nat.le_trans HS2.out HB.out.size) ?_
          case c63 => unfold maxLen; omega
          case cby => omega
          intro u3 x4 hown hgrow hwh
          have HBq := hide (HB.out.grown hgrow HB.out.size (fun g e => HOPB.out g e))
          have HOPn := hide (show ∀ g, u3.ownBlock = some g → w2.heap.size ≤ g from fun g e => hwh.elim (fun h1 => HOPB.out g (h1 ▸ e)) (fun h1 => by rw [h1] at e; cases e; exact HB.out.size))
          clear HOPB; have HOPB := HOPn; clear HOPn
          have HOPq := hide hown; clear HOP; have HOP := HOPq; clear HOPq
          refine hK1.out _ _ (fun _ => pin_mem HBq.out) ?_
          clear HB hK1 hown hgrow hwh; have HB := HBq; clear HBq
          refine wpT_step rfl ?_
          intro K1 hK1
          go_wp2_with fail
          refine hK1.out _ _ (fun _ => pin_mem HB.out) ?_
          clear hK1
          obtain ⟨A2, c2, hu3⟩ := own_slice HOP.out
          have hx4 := heapB HB.out HR2.out
          have hc4 := cell_heap (j := 2) hx4 rfl
          have hf4 := frozen_heap (j := 2) hx4
          subst hu3
          refine wpT_step rfl ?_
          intro K1 hK1
          go_wp2_with fail
          refine hK1.out _ _ (fun h => by cases h) ?_
          clear hK1
          refine wpT_done ?_
          clear hx4 hc4 hf4
          have HBc := hide ((below_lo HBb.out HB.out HS2.out).setCell (p := ⟨w.heap.size, 2, none⟩) (Nat.le_refl _) (.slice A2 (ps.length + 1) c2))
          have HR3 := hide (row_box2 (u := (.slice A2 (ps.length + 1) c2)) HR2.out HB.out)
          have HZ3 := hide (heap_far (p := ⟨w.heap.size, 2, none⟩) (u := (.slice A2 (ps.length + 1) c2)) (heapB HB.out HZ2.out) (by simp))
          have HW3 := hide (own_cell (j := 2) (u := (.slice A2 (ps.length + 1) c2)) (own_below HW2.out HB.out) (heapB HB.out HR2.out) (by decide))
          have HP3 := hide (own_cell (j := 2) (u := (.slice A2 (ps.length + 1) c2)) HOP.out (heapB HB.out HR2.out) (by decide))
          generalize x4.setCell ⟨w.heap.size, 2, none⟩ (.slice A2 (ps.length + 1) c2) = w3 at *
          clear HB HOP HNB HOPB HR2 HZ2 HW2 k0 k1 k2 k3 k4
          have hst := HH.out.below HBc.out
          have p1 := cell_heap (j := 1) hst.h rfl
          have f1 := frozen_heap (j := 1) hst.h
          have HS4 := hide (heap_set (j := 1) (u := .int .i64 (↑i + 1)) hst.h)
          have hr4 := heap_far (p := ⟨p, 1, none⟩) (u := .int .i64 (↑i + 1)) HR3.out (Nat.ne_of_gt HPW.out)
          have hz4 := heap_far (p := ⟨p, 1, none⟩) (u := .int .i64 (↑i + 1)) HZ3.out (Nat.ne_of_gt (Nat.lt_succ_of_lt HPW.out))
          have r0 := cell_heap (j := 0) hr4 rfl
          have r1 := cell_heap (j := 1) hr4 rfl
          have r2 := cell_heap (j := 2) hr4 rfl
          have r3 := cell_heap (j := 3) hr4 rfl
          have z0 := cell_heap (j := 0) hz4 rfl
          have z1 := cell_heap (j := 1) hz4 rfl
          have z2 := cell_heap (j := 2) hz4 rfl
          have z3 := cell_heap (j := 3) hz4 rfl
          have y0 := frozen_heap (j := 0) hz4
          have y1 := frozen_heap (j := 1) hz4
          have y2 := frozen_heap (j := 2) hz4
          have y3 := frozen_heap (j := 3) hz4
          have HO4 := hide (only_set (only_of_below (R := p) HBc.out) 1 (.int .i64 (↑i + 1)))
          have HSP := hide hst
          have HZ4 := hide hz4
          clear hst hr4 hz4
          go_wp2_with fail
          refine bodyPost_ret (v := .agg #[.int .i64 d, .slice A1 (ws.length + 1) c1, .slice A2 (ps.length + 1) c2, .bool b]) (by simp [results, Try.results70, go_sem, z0, z1, z2, z3]) rfl ?_
          have hoF := only_four HO4.out (Nat.le_succ w.heap.size) (.int .i64 d) (.slice A1 (ws.length + 1) c1) (.slice A2 (ps.length + 1) c2) (.bool b)
          exact ⟨hoF, HH.out.next hi hoF (far_four HS4.out (Nat.ne_of_lt (Nat.lt_succ_of_lt HPW.out)) _ _ _ _), _, _, rfl, own_four (own_cell HW3.out HSP.out.h (by decide)) HZ4.out (by decide) _ _ _ _, own_four (own_cell HP3.out HSP.out.h (by decide)) HZ4.out (by decide) _ _ _ _⟩
      · refine wpT_step rfl ?_
        intro K1 hK1
        go_wp2_with fail
        have HBq := hide (HB.out.alloc HB.out.size (Obj.cells #[.int .i64 tk.l, .int .i64 tk.c] 24))
        have HNB := hide (heap_new x0 (Obj.cells #[.int .i64 tk.l, .int .i64 tk.c] 24))
        refine hK1.out _ _ (fun _ => pin_mem HBq.out) ?_
        clear HB hK1; have HB := HBq; clear HBq
        generalize hb_nb : x0.heap.size = nb at *
        generalize x0.alloc (Obj.cells #[.int .i64 tk.l, .int .i64 tk.c] 24) = x1 at *
        clear hb_nb
        refine wpT_step rfl ?_
        intro K1 hK1
        go_wp2_with fail
        have HBq := hide (HB.out.alloc HB.out.size (Obj.cells #[] 24))
        have HNe := hide (Nat.ne_of_gt (lt_heap HNB.out))
        have HNq := hide (heap_old (p := (Obj.cells #[] 24)) HNB.out); clear HNB; have HNB := HNq; clear HNq
        have HOP := hide (World.ownsRow_made (e := 24) (size := 2) (base := w.heap.size) x1 #[] 0 (Nat.le_trans HS2.out HB.out.size) (Nat.zero_le _) rfl)
        have HOPB := hide (show ∀ g, (Value.slice (some ⟨x1.heap.size, 0, none⟩) 0 0).ownBlock = some g → w2.heap.size ≤ g from fun g e => by cases e; exact HB.out.size)
        refine hK1.out _ _ (fun _ => pin_mem HBq.out) ?_
        clear HB hK1; have HB := HBq; clear HBq
        generalize hb_bw : x1.heap.size = bw at *
        generalize x1.alloc (Obj.cells #[] 24) = x2 at *
        clear hb_bw
        refine wpT_step rfl ?_
        intro K1 hK1
        refine wp_src (.tmp 23) (.tmp 25) 42 rfl w.heap.size 24 qi _ 2 16 Try.underlying42 qz0 qz qs qb rfl (by decide) _ 0 [] rfl HOP.out Ap ps.length cp (posC ps) rfl (HPS.out.below (below_wide HBb.out HB.out)) (fun u hu => posC_one hu) ?c63 ?cby (Nat.le_trans HS2.out HB.out.size) ?_
        case c63 => unfold maxLen; omega
        case cby => omega
        intro u2 x3 hown hgrow hwh
        simp only [Nat.zero_add, List.nil_append] at hown ⊢
        have HBq := hide (HB.out.grown hgrow HB.out.size (fun g e => HOPB.out g e))
        have HNq := hide (heap_grown HNB.out hgrow (fun e => HNe.out (Option.some.inj e))); clear HNB; have HNB := HNq; clear HNq
        have HOPn := hide (show ∀ g, u2.ownBlock = some g → w2.heap.size ≤ g from fun g e => hwh.elim (fun h1 => HOPB.out g (h1 ▸ e)) (fun h1 => by rw [h1] at e; cases e; exact HB.out.size))
        clear HOPB; have HOPB := HOPn; clear HOPn
        have HOPq := hide hown; clear HOP; have HOP := HOPq; clear HOPq
        refine hK1.out _ _ (fun _ => pin_mem HBq.out) ?_
        clear HB hK1 hown hgrow hwh; have HB := HBq; clear HBq
        refine wpT_step rfl ?_
        intro K1 hK1
        refine wp_src (.tmp 26) (.tmp 38) 42 rfl w.heap.size 24 qi _ 2 16 Try.underlying42 qz0 qz qs qb rfl (by decide) _ ps.length (posC ps) rfl HOP.out (some ⟨nb, 0, none⟩) 1 1 [.int .i64 tk.l, .int .i64 tk.c] rfl (src_row (n := 1) (size := 2) HNB.out rfl) (fun u hu => by simp at hu; rcases hu with rfl | rfl <;> rfl) ?c63 ?cby (Nat.le_trans HS2.out HB.out.size) ?_
        case c63 => unfold maxLen; omega
        case cby => omega
        intro u3 x4 hown hgrow hwh
        have HBq := hide (HB.out.grown hgrow HB.out.size (fun g e => HOPB.out g e))
        have HOPn := hide (show ∀ g, u3.ownBlock = some g → w2.heap.size ≤ g from fun g e => hwh.elim (fun h1 => HOPB.out g (h1 ▸ e)) (fun h1 => by rw [h1] at e; cases e; exact HB.out.size))
        clear HOPB; have HOPB := HOPn; clear HOPn
        have HOPq := hide hown; clear HOP; have HOP := HOPq; clear HOPq
        refine hK1.out _ _ (fun _ => pin_mem HBq.out) ?_
        clear HB hK1 hown hgrow hwh; have HB := HBq; clear HBq
        refine wpT_step rfl ?_
        intro K1 hK1
        go_wp2_with fail
        refine hK1.out _ _ (fun _ => pin_mem HB.out) ?_
        clear hK1
        obtain ⟨A2, c2, hu3⟩ := own_slice HOP.out
        have hx4 := heapB HB.out HR2.out
        have hc4 := cell_heap (j := 2) hx4 rfl
        have hf4 := frozen_heap (j := 2) hx4
        subst hu3
        refine wpT_step rfl ?_
        intro K1 hK1
        go_wp2_with fail
        refine hK1.out _ _ (fun h => by cases h) ?_
        clear hK1
        refine wpT_done ?_
        clear hx4 hc4 hf4
        have HBc := hide ((below_lo HBb.out HB.out HS2.out).setCell (p := ⟨w.heap.size, 2, none⟩) (Nat.le_refl _) (.slice A2 (ps.length + 1) c2))
        have HR3 := hide (row_box2 (u := (.slice A2 (ps.length + 1) c2)) HR2.out HB.out)
        have HZ3 := hide (heap_far (p := ⟨w.heap.size, 2, none⟩) (u := (.slice A2 (ps.length + 1) c2)) (heapB HB.out HZ2.out) (by simp))
        have HW3 := hide (own_cell (j := 2) (u := (.slice A2 (ps.length + 1) c2)) (own_below HW2.out HB.out) (heapB HB.out HR2.out) (by decide))
        have HP3 := hide (own_cell (j := 2) (u := (.slice A2 (ps.length + 1) c2)) HOP.out (heapB HB.out HR2.out) (by decide))
        generalize x4.setCell ⟨w.heap.size, 2, none⟩ (.slice A2 (ps.length + 1) c2) = w3 at *
        clear HB HOP HNB HOPB HR2 HZ2 HW2 k0 k1 k2 k3 k4
        have hst := HH.out.below HBc.out
        have p1 := cell_heap (j := 1) hst.h rfl
        have f1 := frozen_heap (j := 1) hst.h
        have HS4 := hide (heap_set (j := 1) (u := .int .i64 (↑i + 1)) hst.h)
        have hr4 := heap_far (p := ⟨p, 1, none⟩) (u := .int .i64 (↑i + 1)) HR3.out (Nat.ne_of_gt HPW.out)
        have hz4 := heap_far (p := ⟨p, 1, none⟩) (u := .int .i64 (↑i + 1)) HZ3.out (Nat.ne_of_gt (Nat.lt_succ_of_lt HPW.out))
        have r0 := cell_heap (j := 0) hr4 rfl
        have r1 := cell_heap (j := 1) hr4 rfl
        have r2 := cell_heap (j := 2) hr4 rfl
        have r3 := cell_heap (j := 3) hr4 rfl
        have z0 := cell_heap (j := 0) hz4 rfl
        have z1 := cell_heap (j := 1) hz4 rfl
        have z2 := cell_heap (j := 2) hz4 rfl
        have z3 := cell_heap (j := 3) hz4 rfl
        have y0 := frozen_heap (j := 0) hz4
        have y1 := frozen_heap (j := 1) hz4
        have y2 := frozen_heap (j := 2) hz4
        have y3 := frozen_heap (j := 3) hz4
        have HO4 := hide (only_set (only_of_below (R := p) HBc.out) 1 (.int .i64 (↑i + 1)))
        have HSP := hide hst
        have HZ4 := hide hz4
        clear hst hr4 hz4
        go_wp2_with fail
        refine bodyPost_ret (v := .agg #[.int .i64 d, .slice A1 (ws.length + 1) c1, .slice A2 (ps.length + 1) c2, .bool b]) (by simp [results, Try.results70, go_sem, z0, z1, z2, z3]) rfl ?_
        have hoF := only_four HO4.out (Nat.le_succ w.heap.size) (.int .i64 d) (.slice A1 (ws.length + 1) c1) (.slice A2 (ps.length + 1) c2) (.bool b)
        exact ⟨hoF, HH.out.next hi hoF (far_four HS4.out (Nat.ne_of_lt (Nat.lt_succ_of_lt HPW.out)) _ _ _ _), _, _, rfl, own_four (own_cell HW3.out HSP.out.h (by decide)) HZ4.out (by decide) _ _ _ _, own_four (own_cell HP3.out HSP.out.h (by decide)) HZ4.out (by decide) _ _ _ _⟩
  · refine wpT_step rfl ?_
    intro K1 hK1
    go_wp2_with fail
    have HBq := hide (HB.out.alloc HB.out.size (Obj.cells #[.string tk.b] 9))
    have HNB := hide (heap_new x0 (Obj.cells #[.string tk.b] 9))
    refine hK1.out _ _ (fun _ => pin_mem HBq.out) ?_
    clear HB hK1; have HB := HBq; clear HBq
    generalize hb_nb : x0.heap.size = nb at *
    generalize x0.alloc (Obj.cells #[.string tk.b] 9) = x1 at *
    clear hb_nb
    refine wpT_step rfl ?_
    intro K1 hK1
    go_wp2_with fail
    have HBq := hide (HB.out.alloc HB.out.size (Obj.cells #[] 9))
    have HNe := hide (Nat.ne_of_gt (lt_heap HNB.out))
    have HNq := hide (heap_old (p := (Obj.cells #[] 9)) HNB.out); clear HNB; have HNB := HNq; clear HNq
    have HOW := hide (World.ownsRow_made (e := 9) (size := 1) (base := w.heap.size) x1 #[] 0 (Nat.le_trans HS1.out HB.out.size) (Nat.zero_le _) rfl)
    have HOWB := hide (show ∀ g, (Value.slice (some ⟨x1.heap.size, 0, none⟩) 0 0).ownBlock = some g → w1.heap.size ≤ g from fun g e => by cases e; exact HB.out.size)
    refine hK1.out _ _ (fun _ => pin_mem HBq.out) ?_
    clear HB hK1; have HB := HBq; clear HBq
    generalize hb_bw : x1.heap.size = bw at *
    generalize x1.alloc (Obj.cells #[] 9) = x2 at *
    clear hb_bw
    refine wpT_step rfl ?_
    intro K1 hK1
    refine wp_src (.tmp 5) (.tmp 7) 41 rfl w.heap.size 9 si _ 1 16 Try.underlying41 sz0 sz ss sb2 rfl (by decide) _ 0 [] rfl HOW.out Aw ws.length cw (ws.map Value.string) rfl (HWS.out.below (below_wide HBa.out HB.out)) (fun u hu => str_one hu) ?c63 ?cby (Nat.le_trans HS1.out HB.out.size) ?_
    case c63 => unfold maxLen; omega
    case cby => omega
    intro u2 x3 hown hgrow hwh
    simp only [Nat.zero_add, List.nil_append] at hown ⊢
    have HBq := hide (HB.out.grown hgrow HB.out.size (fun g e => HOWB.out g e))
    have HNq := hide (heap_grown HNB.out hgrow (fun e => HNe.out (Option.some.inj e))); clear HNB; have HNB := HNq; clear HNq
    have HOWn := hide (show ∀ g, u2.ownBlock = some g → w1.heap.size ≤ g from fun g e => hwh.elim (fun h1 => HOWB.out g (h1 ▸ e)) (fun h1 => by rw [h1] at e; cases e; exact HB.out.size))
    clear HOWB; have HOWB := HOWn; clear HOWn
    have HOWq := hide hown; clear HOW; have HOW := HOWq; clear HOWq
    refine hK1.out _ _ (fun _ => pin_mem HBq.out) ?_
    clear HB hK1 hown hgrow hwh; have HB := HBq; clear HBq
    refine wpT_step rfl ?_
    intro K1 hK1
    refine wp_src (.tmp 8) (.tmp 20) 41 rfl w.heap.size 9 si _ 1 16 Try.underlying41 sz0 sz ss sb2 rfl (by decide) _ ws.length (ws.map Value.string) rfl HOW.out (some ⟨nb, 0, none⟩) 1 1 [.string tk.b] rfl (src_row (n := 1) (size := 1) HNB.out rfl) (fun u hu => by simp at hu; rw [hu]; rfl) ?c63 ?cby (Nat.le_trans HS1.out HB.out.size) ?_
    case c63 => unfold maxLen; omega
    case cby => omega
    intro u3 x4 hown hgrow hwh
    have HBq := hide (HB.out.grown hgrow HB.out.size (fun g e => HOWB.out g e))
    have HOWn := hide (show ∀ g, u3.ownBlock = some g → w1.heap.size ≤ g from fun g e => hwh.elim (fun h1 => HOWB.out g (h1 ▸ e)) (fun h1 => by rw [h1] at e; cases e; exact HB.out.size))
    clear HOWB; have HOWB := HOWn; clear HOWn
    have HOWq := hide hown; clear HOW; have HOW := HOWq; clear HOWq
    refine hK1.out _ _ (fun _ => pin_mem HBq.out) ?_
    clear HB hK1 hown hgrow hwh; have HB := HBq; clear HBq
    refine wpT_step rfl ?_
    intro K1 hK1
    go_wp2_with fail
    refine hK1.out _ _ (fun _ => pin_mem HB.out) ?_
    clear hK1
    obtain ⟨A1, c1, hu3⟩ := own_slice HOW.out
    have hx4 := heapB HB.out HR1.out
    have hc4 := cell_heap (j := 1) hx4 rfl
    have hf4 := frozen_heap (j := 1) hx4
    subst hu3
    refine wpT_step rfl ?_
    intro K1 hK1
    go_wp2_with fail
    refine hK1.out _ _ (fun h => by cases h) ?_
    clear hK1
    refine wpT_done ?_
    clear hx4 hc4 hf4
    have HBb := hide ((below_lo HBa.out HB.out HS1.out).setCell (p := ⟨w.heap.size, 1, none⟩) (Nat.le_refl _) (.slice A1 (ws.length + 1) c1))
    have HR2 := hide (row_box (u := (.slice A1 (ws.length + 1) c1)) HR1.out HB.out)
    have HZ2 := hide (heap_far (p := ⟨w.heap.size, 1, none⟩) (u := (.slice A1 (ws.length + 1) c1)) (heapB HB.out HZ1.out) (by simp))
    have HW2 := hide (own_cell (j := 1) (u := (.slice A1 (ws.length + 1) c1)) HOW.out (heapB HB.out HR1.out) (by decide))
    have HS2 := hide HBb.out.size
    generalize x4.setCell ⟨w.heap.size, 1, none⟩ (.slice A1 (ws.length + 1) c1) = w2 at *
    clear HB HOW HNB HOWB HR1 HZ1 k0 k1 k2 k3
    have k0 := fun x => cellB (pin_in (Below.refl w2.heap.size w2).drew x) (cell_heap (j := 0) (HH.out.below HBb.out).h rfl)
    have k1 := fun x => cellB (pin_in (Below.refl w2.heap.size w2).drew x) (cell_heap (j := 1) (HH.out.below HBb.out).h rfl)
    have k2 := fun x => cellB (pin_in (Below.refl w2.heap.size w2).drew x) (cell_heap (j := 2) HR2.out rfl)
    have k3 := fun x => cellB (pin_in (Below.refl w2.heap.size w2).drew x) (cellB HBb.out HT.out.2.1)
    have k4 := fun x => cellB (pin_in (Below.refl w2.heap.size w2).drew x) (cellB HBb.out HT.out.2.2)
    go_wp2_with fail
    refine wp_region_tree ((Below w2.heap.size w2)) (fun k => ([18] : List Nat).contains k) (.take [1, 2, 4, 5, 6, 7, 8, 9, 10, 11, 12, 13, 14] (.fork 0 (.fork 3 (.step 15 (.step 16 (.step 17 (.step 18 .done)))) 15 (.step 3 (.step 16 (.step 17 (.step 18 .done))))) 15 (.step 0 (.step 3 (.step 16 (.step 17 (.step 18 .done))))))) (by kernel_rfl) (by kernel_rfl) (by kernel_rfl) (by kernel_rfl) (.take (.cons (.succ (.zero)) (.cons (.succ (.succ (.zero))) (.cons (.succ (.succ (.succ (.succ (.zero))))) (.cons (.succ (.succ (.succ (.succ (.succ (.zero)))))) (.cons (.succ (.succ (.succ (.succ (.succ (.succ (.zero))))))) (.cons (.succ (.succ (.succ (.succ (.succ (.succ (.succ (.zero)))))))) (.cons (.succ (.succ (.succ (.succ (.succ (.succ (.succ (.succ (.zero))))))))) (.cons (.succ (.succ (.succ (.succ (.succ (.succ (.succ (.succ (.succ (.zero)))))))))) (.cons (.succ (.succ (.succ (.succ (.succ (.succ (.succ (.succ (.succ (.succ (.zero))))))))))) (.cons (.succ (.succ (.succ (.succ (.succ (.succ (.succ (.succ (.succ (.succ (.succ (.zero)))))))))))) (.cons (.succ (.succ (.succ (.succ (.succ (.succ (.succ (.succ (.succ (.succ (.succ (.succ (.zero))))))))))))) (.cons (.succ (.succ (.succ (.succ (.succ (.succ (.succ (.succ (.succ (.succ (.succ (.succ (.succ (.zero)))))))))))))) (.cons (.succ (.succ (.succ (.succ (.succ (.succ (.succ (.succ (.succ (.succ (.succ (.succ (.succ (.succ (.zero))))))))))))))) .nil))))))))))))) (.fork (.zero) rfl (.fork (.succ (.succ (.succ (.zero)))) rfl (.step (.succ (.succ (.succ (.succ (.succ (.succ (.succ (.succ (.succ (.succ (.succ (.succ (.succ (.succ (.succ (.zero)))))))))))))))) rfl (.step (.succ (.succ (.succ (.succ (.succ (.succ (.succ (.succ (.succ (.succ (.succ (.succ (.succ (.succ (.succ (.succ (.zero))))))))))))))))) rfl (.step (.succ (.succ (.succ (.succ (.succ (.succ (.succ (.succ (.succ (.succ (.succ (.succ (.succ (.succ (.succ (.succ (.succ (.zero)))))))))))))))))) rfl (.step (.succ (.succ (.succ (.succ (.succ (.succ (.succ (.succ (.succ (.succ (.succ (.succ (.succ (.succ (.succ (.succ (.succ (.succ (.zero))))))))))))))))))) rfl .done)))) (.succ (.succ (.succ (.succ (.succ (.succ (.succ (.succ (.succ (.succ (.succ (.succ (.succ (.succ (.succ (.zero)))))))))))))))) rfl (.step (.succ (.succ (.succ (.zero)))) rfl (.step (.succ (.succ (.succ (.succ (.succ (.succ (.succ (.succ (.succ (.succ (.succ (.succ (.succ (.succ (.succ (.succ (.zero))))))))))))))))) rfl (.step (.succ (.succ (.succ (.succ (.succ (.succ (.succ (.succ (.succ (.succ (.succ (.succ (.succ (.succ (.succ (.succ (.succ (.zero)))))))))))))))))) rfl (.step (.succ (.succ (.succ (.succ (.succ (.succ (.succ (.succ (.succ (.succ (.succ (.succ (.succ (.succ (.succ (.succ (.succ (.succ (.zero))))))))))))))))))) rfl .done))))) (.succ (.succ (.succ (.succ (.succ (.succ (.succ (.succ (.succ (.succ (.succ (.succ (.succ (.succ (.succ (.zero)))))))))))))))) rfl (.step (.zero) rfl (.step (.succ (.succ (.succ (.zero)))) rfl (.step (.succ (.succ (.succ (.succ (.succ (.succ (.succ (.succ (.succ (.succ (.succ (.succ (.succ (.succ (.succ (.succ (.zero))))))))))))))))) rfl (.step (.succ (.succ (.succ (.succ (.succ (.succ (.succ (.succ (.succ (.succ (.succ (.succ (.succ (.succ (.succ (.succ (.succ (.zero)))))))))))))))))) rfl (.step (.succ (.succ (.succ (.succ (.succ (.succ (.succ (.succ (.succ (.succ (.succ (.succ (.succ (.succ (.succ (.succ (.succ (.succ (.zero))))))))))))))))))) rfl .done))))))) ?hQ ?hS ?_
    case hQ => exact fun _ _ _ _ _ h => h
    case hS => exact (Below.refl _ _).drew
    refine wpT_take ?_
    repeat (first | go_big_quiet_step ((fail)) | quiet_step ((fail)))
    refine wpQuiet_nil ?_
    have HB := hide (show Below w2.heap.size w2 w2.drew from (Below.refl _ _).drew)
    generalize w2.drew = x0 at *
    refine wpT_fork ?_ ?_
    · refine wpT_step rfl ?_
      intro K1 hK1
      go_wp2_with fail
      have HBq := hide (HB.out.alloc HB.out.size (Obj.cells #[] 24))
      have HOP := hide (World.ownsRow_made (e := 24) (size := 2) (base := w.heap.size) x0 #[] 0 (Nat.le_trans HS2.out HB.out.size) (Nat.zero_le _) rfl)
      have HOPB := hide (show ∀ g, (Value.slice (some ⟨x0.heap.size, 0, none⟩) 0 0).ownBlock = some g → w2.heap.size ≤ g from fun g e => by cases e; exact HB.out.size)
      refine hK1.out _ _ (fun _ => pin_mem HBq.out) ?_
      clear HB hK1; have HB := HBq; clear HBq
      generalize hb_bw : x0.heap.size = bw at *
      generalize x0.alloc (Obj.cells #[] 24) = x1 at *
      clear hb_bw
      refine wpT_fork ?_ ?_
      · refine wpT_step rfl ?_
        intro K1 hK1
        refine wp_src (.tmp 23) (.tmp 25) 42 rfl w.heap.size 24 qi _ 2 16 Try.underlying42 qz0 qz qs qb rfl (by decide) _ 0 [] rfl HOP.out Ap ps.length cp (posC ps) rfl (HPS.out.below (below_wide HBb.out HB.out)) (fun u hu => posC_one hu) ?c63 ?cby (Nat.le_trans HS2.out HB.out.size) ?_
        case c63 => unfold maxLen; omega
        case cby => omega
        intro u1 x2 hown hgrow hwh
        simp only [Nat.zero_add, List.nil_append] at hown ⊢
        have HBq := hide (HB.out.grown hgrow HB.out.size (fun g e => HOPB.out g e))
        have HOPn := hide (show ∀ g, u1.ownBlock = some g → w2.heap.size ≤ g from fun g e => hwh.elim (fun h1 => HOPB.out g (h1 ▸ e)) (fun h1 => by rw [h1] at e; cases e; exact HB.out.size))
        clear HOPB; have HOPB := HOPn; clear HOPn
        have HOPq := hide hown; clear HOP; have HOP := HOPq; clear HOPq
        refine hK1.out _ _ (fun _ => pin_mem HBq.out) ?_
        clear HB hK1 hown hgrow hwh; have HB := HBq; clear HBq
        refine wpT_step rfl ?_
        intro K1 hK1
        go_wp2_with fail
        have HBq := hide (HB.out.alloc HB.out.size (Obj.cells #[.int .i64 tk.l, .int .i64 tk.c] 24))
        have HOPq := hide (HOP.out.alloc (Obj.cells #[.int .i64 tk.l, .int .i64 tk.c] 24)); clear HOP; have HOP := HOPq; clear HOPq
        have HNB := hide (heap_new x2 (Obj.cells #[.int .i64 tk.l, .int .i64 tk.c] 24))
        refine hK1.out _ _ (fun _ => pin_mem HBq.out) ?_
        clear HB hK1; have HB := HBq; clear HBq
        generalize hb_nb : x2.heap.size = nb at *
        generalize x2.alloc (Obj.cells #[.int .i64 tk.l, .int .i64 tk.c] 24) = x3 at *
        clear hb_nb
        refine wpT_step rfl ?_
        intro K1 hK1
        refine wp_src (.tmp 26) (.tmp 38) 42 rfl w.heap.size 24 qi _ 2 16 Try.underlying42 qz0 qz qs qb rfl (by decide) _ ps.length (posC ps) rfl HOP.out (some ⟨nb, 0, none⟩) 1 1 [.int .i64 tk.l, .int .i64 tk.c] rfl (src_row (n := 1) (size := 2) HNB.out rfl) (fun u hu => by simp at hu; rcases hu with rfl | rfl <;> rfl) ?c63 ?cby (Nat.le_trans HS2.out HB.out.size) ?_
        case c63 => unfold maxLen; omega
        case cby => omega
        intro u3 x4 hown hgrow hwh
        have HBq := hide (HB.out.grown hgrow HB.out.size (fun g e => HOPB.out g e))
        have HOPn := hide (show ∀ g, u3.ownBlock = some g → w2.heap.size ≤ g from fun g e => hwh.elim (fun h1 => HOPB.out g (h1 ▸ e)) (fun h1 => by rw [h1] at e; cases e; exact HB.out.size))
        clear HOPB; have HOPB := HOPn; clear HOPn
        have HOPq := hide hown; clear HOP; have HOP := HOPq; clear HOPq
        refine hK1.out _ _ (fun _ => pin_mem HBq.out) ?_
        clear HB hK1 hown hgrow hwh; have HB := HBq; clear HBq
        refine wpT_step rfl ?_
        intro K1 hK1
        go_wp2_with fail
        refine hK1.out _ _ (fun _ => pin_mem HB.out) ?_
        clear hK1
        obtain ⟨A2, c2, hu3⟩ := own_slice HOP.out
        have hx4 := heapB HB.out HR2.out
        have hc4 := cell_heap (j := 2) hx4 rfl
        have hf4 := frozen_heap (j := 2) hx4
        subst hu3
        refine wpT_step rfl ?_
        intro K1 hK1
        go_wp2_with fail
        refine hK1.out _ _ (fun h => by cases h) ?_
        clear hK1
        refine wpT_done ?_
        clear hx4 hc4 hf4
        have HBc := hide ((below_lo HBb.out HB.out HS2.out).setCell (p := ⟨w.heap.size, 2, none⟩) (Nat.le_refl _) (.slice A2 (ps.length + 1) c2))
        have HR3 := hide (row_box2 (u := (.slice A2 (ps.length + 1) c2)) HR2.out HB.out)
        have HZ3 := hide (heap_far (p := ⟨w.heap.size, 2, none⟩) (u := (.slice A2 (ps.length + 1) c2)) (heapB HB.out HZ2.out) (by simp))
        have HW3 := hide (own_cell (j := 2) (u := (.slice A2 (ps.length + 1) c2)) (own_below HW2.out HB.out) (heapB HB.out HR2.out) (by decide))
        have HP3 := hide (own_cell (j := 2) (u := (.slice A2 (ps.length + 1) c2)) HOP.out (heapB HB.out HR2.out) (by decide))
        generalize x4.setCell ⟨w.heap.size, 2, none⟩ (.slice A2 (ps.length + 1) c2) = w3 at *
        clear HB HOP HNB HOPB HR2 HZ2 HW2 k0 k1 k2 k3 k4
        have hst := HH.out.below HBc.out
        have p1 := cell_heap (j := 1) hst.h rfl
        have f1 := frozen_heap (j := 1) hst.h
        have HS4 := hide (heap_set (j := 1) (u := .int .i64 (↑i + 1)) hst.h)
        have hr4 := heap_far (p := ⟨p, 1, none⟩) (u := .int .i64 (↑i + 1)) HR3.out (Nat.ne_of_gt HPW.out)
        have hz4 := heap_far (p := ⟨p, 1, none⟩) (u := .int .i64 (↑i + 1)) HZ3.out (Nat.ne_of_gt (Nat.lt_succ_of_lt HPW.out))
        have r0 := cell_heap (j := 0) hr4 rfl
        have r1 := cell_heap (j := 1) hr4 rfl
        have r2 := cell_heap (j := 2) hr4 rfl
        have r3 := cell_heap (j := 3) hr4 rfl
        have z0 := cell_heap (j := 0) hz4 rfl
        have z1 := cell_heap (j := 1) hz4 rfl
        have z2 := cell_heap (j := 2) hz4 rfl
        have z3 := cell_heap (j := 3) hz4 rfl
        have y0 := frozen_heap (j := 0) hz4
        have y1 := frozen_heap (j := 1) hz4
        have y2 := frozen_heap (j := 2) hz4
        have y3 := frozen_heap (j := 3) hz4
        have HO4 := hide (only_set (only_of_below (R := p) HBc.out) 1 (.int .i64 (↑i + 1)))
        have HSP := hide hst
        have HZ4 := hide hz4
        clear hst hr4 hz4
        go_wp2_with fail
        refine bodyPost_ret (v := .agg #[.int .i64 d, .slice A1 (ws.length + 1) c1, .slice A2 (ps.length + 1) c2, .bool b]) (by simp [results, Try.results70, go_sem, z0, z1, z2, z3]) rfl ?_
        have hoF := only_four HO4.out (Nat.le_succ w.heap.size) (.int .i64 d) (.slice A1 (ws.length + 1) c1) (.slice A2 (ps.length + 1) c2) (.bool b)
        exact ⟨hoF, HH.out.next hi hoF (far_four HS4.out (Nat.ne_of_lt (Nat.lt_succ_of_lt HPW.out)) _ _ _ _), _, _, rfl, own_four (own_cell HW3.out HSP.out.h (by decide)) HZ4.out (by decide) _ _ _ _, own_four (own_cell HP3.out HSP.out.h (by decide)) HZ4.out (by decide) _ _ _ _⟩
      · refine wpT_step rfl ?_
        intro K1 hK1
        go_wp2_with fail
        have HBq := hide (HB.out.alloc HB.out.size (Obj.cells #[.int .i64 tk.l, .int .i64 tk.c] 24))
        have HNe := hide (Nat.ne_of_lt ((HOP.out.lt _ rfl).2))
        have HOPq := hide (HOP.out.alloc (Obj.cells #[.int .i64 tk.l, .int .i64 tk.c] 24)); clear HOP; have HOP := HOPq; clear HOPq
        have HNB := hide (heap_new x1 (Obj.cells #[.int .i64 tk.l, .int .i64 tk.c] 24))
        refine hK1.out _ _ (fun _ => pin_mem HBq.out) ?_
        clear HB hK1; have HB := HBq; clear HBq
        generalize hb_nb : x1.heap.size = nb at *
        generalize x1.alloc (Obj.cells #[.int .i64 tk.l, .int .i64 tk.c] 24) = x2 at *
        clear hb_nb
        refine wpT_step rfl ?_
        intro K1 hK1
        refine wp_src (.tmp 23) (.tmp 25) 42 rfl w.heap.size 24 qi _ 2 16 Try.underlying42 qz0 qz qs qb rfl (by decide) _ 0 [] rfl HOP.out Ap ps.length cp (posC ps) rfl (HPS.out.below (below_wide HBb.out HB.out)) (fun u hu => posC_one hu) ?c63 ?cby (Nat.le_trans HS2.out HB.out.size) ?_
        case c63 => unfold maxLen; omega
        case cby => omega
        intro u2 x3 hown hgrow hwh
        simp only [Nat.zero_add, List.nil_append] at hown ⊢
        have HBq := hide (HB.out.grown hgrow HB.out.size (fun g e => HOPB.out g e))
        have HNq := hide (heap_grown HNB.out hgrow (fun e => HNe.out (Option.some.inj e))); clear HNB; have HNB := HNq; clear HNq
        have HOPn := hide (show ∀ g, u2.ownBlock = some g → w2.heap.size ≤ g from fun g e => hwh.elim (fun h1 => HOPB.out g (h1 ▸ e)) (fun h1 => by rw [h1] at e; cases e; exact HB.out.size))
        clear HOPB; have HOPB := HOPn; clear HOPn
        have HOPq := hide hown; clear HOP; have HOP := HOPq; clear HOPq
        refine hK1.out _ _ (fun _ => pin_mem HBq.out) ?_
        clear HB hK1 hown hgrow hwh; have HB := HBq; clear HBq
        refine wpT_step rfl ?_
        intro K1 hK1
        refine wp_src (.tmp 26) (.tmp 38) 42 rfl w.heap.size 24 qi _ 2 16 Try.underlying42 qz0 qz qs qb rfl (by decide) _ ps.length (posC ps) rfl HOP.out (some ⟨nb, 0, none⟩) 1 1 [.int .i64 tk.l, .int .i64 tk.c] rfl (src_row (n := 1) (size := 2) HNB.out rfl) (fun u hu => by simp at hu; rcases hu with rfl | rfl <;> rfl) ?c63 ?cby (Nat.le_trans HS2.out HB.out.size) ?_
        case c63 => unfold maxLen; omega
        case cby => omega
        intro u3 x4 hown hgrow hwh
        have HBq := hide (HB.out.grown hgrow HB.out.size (fun g e => HOPB.out g e))
        have HOPn := hide (show ∀ g, u3.ownBlock = some g → w2.heap.size ≤ g from fun g e => hwh.elim (fun h1 => HOPB.out g (h1 ▸ e)) (fun h1 => by rw [h1] at e; cases e; exact HB.out.size))
        clear HOPB; have HOPB := HOPn; clear HOPn
        have HOPq := hide hown; clear HOP; have HOP := HOPq; clear HOPq
        refine hK1.out _ _ (fun _ => pin_mem HBq.out) ?_
        clear HB hK1 hown hgrow hwh; have HB := HBq; clear HBq
        refine wpT_step rfl ?_
        intro K1 hK1
        go_wp2_with fail
        refine hK1.out _ _ (fun _ => pin_mem HB.out) ?_
        clear hK1
        obtain ⟨A2, c2, hu3⟩ := own_slice HOP.out
        have hx4 := heapB HB.out HR2.out
        have hc4 := cell_heap (j := 2) hx4 rfl
        have hf4 := frozen_heap (j := 2) hx4
        subst hu3
        refine wpT_step rfl ?_
        intro K1 hK1
        go_wp2_with fail
        refine hK1.out _ _ (fun h => by cases h) ?_
        clear hK1
        refine wpT_done ?_
        clear hx4 hc4 hf4
        have HBc := hide ((below_lo HBb.out HB.out HS2.out).setCell (p := ⟨w.heap.size, 2, none⟩) (Nat.le_refl _) (.slice A2 (ps.length + 1) c2))
        have HR3 := hide (row_box2 (u := (.slice A2 (ps.length + 1) c2)) HR2.out HB.out)
        have HZ3 := hide (heap_far (p := ⟨w.heap.size, 2, none⟩) (u := (.slice A2 (ps.length + 1) c2)) (heapB HB.out HZ2.out) (by simp))
        have HW3 := hide (own_cell (j := 2) (u := (.slice A2 (ps.length + 1) c2)) (own_below HW2.out HB.out) (heapB HB.out HR2.out) (by decide))
        have HP3 := hide (own_cell (j := 2) (u := (.slice A2 (ps.length + 1) c2)) HOP.out (heapB HB.out HR2.out) (by decide))
        generalize x4.setCell ⟨w.heap.size, 2, none⟩ (.slice A2 (ps.length + 1) c2) = w3 at *
        clear HB HOP HNB HOPB HR2 HZ2 HW2 k0 k1 k2 k3 k4
        have hst := HH.out.below HBc.out
        have p1 := cell_heap (j := 1) hst.h rfl
        have f1 := frozen_heap (j := 1) hst.h
        have HS4 := hide (heap_set (j := 1) (u := .int .i64 (↑i + 1)) hst.h)
        have hr4 := heap_far (p := ⟨p, 1, none⟩) (u := .int .i64 (↑i + 1)) HR3.out (Nat.ne_of_gt HPW.out)
        have hz4 := heap_far (p := ⟨p, 1, none⟩) (u := .int .i64 (↑i + 1)) HZ3.out (Nat.ne_of_gt (Nat.lt_succ_of_lt HPW.out))
        have r0 := cell_heap (j := 0) hr4 rfl
        have r1 := cell_heap (j := 1) hr4 rfl
        have r2 := cell_heap (j := 2) hr4 rfl
        have r3 := cell_heap (j := 3) hr4 rfl
        have z0 := cell_heap (j := 0) hz4 rfl
        have z1 := cell_heap (j := 1) hz4 rfl
        have z2 := cell_heap (j := 2) hz4 rfl
        have z3 := cell_heap (j := 3) hz4 rfl
        have y0 := frozen_heap (j := 0) hz4
        have y1 := frozen_heap (j := 1) hz4
        have y2 := frozen_heap (j := 2) hz4
        have y3 := frozen_heap (j := 3) hz4
        have HO4 := hide (only_set (only_of_below (R := p) HBc.out) 1 (.int .i64 (↑i + 1)))
        have HSP := hide hst
        have HZ4 := hide hz4
        clear hst hr4 hz4
        go_wp2_with fail
        refine bodyPost_ret (v := .agg #[.int .i64 d, .slice A1 (ws.length + 1) c1, .slice A2 (ps.length + 1) c2, .bool b]) (by simp [results, Try.results70, go_sem, z0, z1, z2, z3]) rfl ?_
        have hoF := only_four HO4.out (Nat.le_succ w.heap.size) (.int .i64 d) (.slice A1 (ws.length + 1) c1) (.slice A2 (ps.length + 1) c2) (.bool b)
        exact ⟨hoF, HH.out.next hi hoF (far_four HS4.out (Nat.ne_of_lt (Nat.lt_succ_of_lt HPW.out)) _ _ _ _), _, _, rfl, own_four (own_cell HW3.out HSP.out.h (by decide)) HZ4.out (by decide) _ _ _ _, own_four (own_cell HP3.out HSP.out.h (by decide)) HZ4.out (by decide) _ _ _ _⟩
    · refine wpT_step rfl ?_
      intro K1 hK1
      go_wp2_with fail
      have HBq := hide (HB.out.alloc HB.out.size (Obj.cells #[.int .i64 tk.l, .int .i64 tk.c] 24))
      have HNB := hide (heap_new x0 (Obj.cells #[.int .i64 tk.l, .int .i64 tk.c] 24))
      refine hK1.out _ _ (fun _ => pin_mem HBq.out) ?_
      clear HB hK1; have HB := HBq; clear HBq
      generalize hb_nb : x0.heap.size = nb at *
      generalize x0.alloc (Obj.cells #[.int .i64 tk.l, .int .i64 tk.c] 24) = x1 at *
      clear hb_nb
      refine wpT_step rfl ?_
      intro K1 hK1
      go_wp2_with fail
      have HBq := hide (HB.out.alloc HB.out.size (Obj.cells #[] 24))
      have HNe := hide (Nat.ne_of_gt (lt_heap HNB.out))
      have HNq := hide (heap_old (p := (Obj.cells #[] 24)) HNB.out); clear HNB; have HNB := HNq; clear HNq
      have HOP := hide (World.ownsRow_made (e := 24) (size := 2) (base := w.heap.size) x1 #[] 0 (Nat.le_trans HS2.out HB.out.size) (Nat.zero_le _) rfl)
      have HOPB := hide (show ∀ g, (Value.slice (some ⟨x1.heap.size, 0, none⟩) 0 0).ownBlock = some g → w2.heap.size ≤ g from fun g e => by cases e; exact HB.out.size)
      refine hK1.out _ _ (fun _ => pin_mem HBq.out) ?_
      clear HB hK1; have HB := HBq; clear HBq
      generalize hb_bw : x1.heap.size = bw at *
      generalize x1.alloc (Obj.cells #[] 24) = x2 at *
      clear hb_bw
      refine wpT_step rfl ?_
      intro K1 hK1
      refine wp_src (.tmp 23) (.tmp 25) 42 rfl w.heap.size 24 qi _ 2 16 Try.underlying42 qz0 qz qs qb rfl (by decide) _ 0 [] rfl HOP.out Ap ps.length cp (posC ps) rfl (HPS.out.below (below_wide HBb.out HB.out)) (fun u hu => posC_one hu) ?c63 ?cby (Nat.le_trans HS2.out HB.out.size) ?_
      case c63 => unfold maxLen; omega
      case cby => omega
      intro u2 x3 hown hgrow hwh
      simp only [Nat.zero_add, List.nil_append] at hown ⊢
      have HBq := hide (HB.out.grown hgrow HB.out.size (fun g e => HOPB.out g e))
      have HNq := hide (heap_grown HNB.out hgrow (fun e => HNe.out (Option.some.inj e))); clear HNB; have HNB := HNq; clear HNq
      have HOPn := hide (show ∀ g, u2.ownBlock = some g → w2.heap.size ≤ g from fun g e => hwh.elim (fun h1 => HOPB.out g (h1 ▸ e)) (fun h1 => by rw [h1] at e; cases e; exact HB.out.size))
      clear HOPB; have HOPB := HOPn; clear HOPn
      have HOPq := hide hown; clear HOP; have HOP := HOPq; clear HOPq
      refine hK1.out _ _ (fun _ => pin_mem HBq.out) ?_
      clear HB hK1 hown hgrow hwh; have HB := HBq; clear HBq
      refine wpT_step rfl ?_
      intro K1 hK1
      refine wp_src (.tmp 26) (.tmp 38) 42 rfl w.heap.size 24 qi _ 2 16 Try.underlying42 qz0 qz qs qb rfl (by decide) _ ps.length (posC ps) rfl HOP.out (some ⟨nb, 0, none⟩) 1 1 [.int .i64 tk.l, .int .i64 tk.c] rfl (src_row (n := 1) (size := 2) HNB.out rfl) (fun u hu => by simp at hu; rcases hu with rfl | rfl <;> rfl) ?c63 ?cby (Nat.le_trans HS2.out HB.out.size) ?_
      case c63 => unfold maxLen; omega
      case cby => omega
      intro u3 x4 hown hgrow hwh
      have HBq := hide (HB.out.grown hgrow HB.out.size (fun g e => HOPB.out g e))
      have HOPn := hide (show ∀ g, u3.ownBlock = some g → w2.heap.size ≤ g from fun g e => hwh.elim (fun h1 => HOPB.out g (h1 ▸ e)) (fun h1 => by rw [h1] at e; cases e; exact HB.out.size))
      clear HOPB; have HOPB := HOPn; clear HOPn
      have HOPq := hide hown; clear HOP; have HOP := HOPq; clear HOPq
      refine hK1.out _ _ (fun _ => pin_mem HBq.out) ?_
      clear HB hK1 hown hgrow hwh; have HB := HBq; clear HBq
      refine wpT_step rfl ?_
      intro K1 hK1
      go_wp2_with fail
      refine hK1.out _ _ (fun _ => pin_mem HB.out) ?_
      clear hK1
      obtain ⟨A2, c2, hu3⟩ := own_slice HOP.out
      have hx4 := heapB HB.out HR2.out
      have hc4 := cell_heap (j := 2) hx4 rfl
      have hf4 := frozen_heap (j := 2) hx4
      subst hu3
      refine wpT_step rfl ?_
      intro K1 hK1
      go_wp2_with fail
      refine hK1.out _ _ (fun h => by cases h) ?_
      clear hK1
      refine wpT_done ?_
      clear hx4 hc4 hf4
      have HBc := hide ((below_lo HBb.out HB.out HS2.out).setCell (p := ⟨w.heap.size, 2, none⟩) (Nat.le_refl _) (.slice A2 (ps.length + 1) c2))
      have HR3 := hide (row_box2 (u := (.slice A2 (ps.length + 1) c2)) HR2.out HB.out)
      have HZ3 := hide (heap_far (p := ⟨w.heap.size, 2, none⟩) (u := (.slice A2 (ps.length + 1) c2)) (heapB HB.out HZ2.out) (by simp))
      have HW3 := hide (own_cell (j := 2) (u := (.slice A2 (ps.length + 1) c2)) (own_below HW2.out HB.out) (heapB HB.out HR2.out) (by decide))
      have HP3 := hide (own_cell (j := 2) (u := (.slice A2 (ps.length + 1) c2)) HOP.out (heapB HB.out HR2.out) (by decide))
      generalize x4.setCell ⟨w.heap.size, 2, none⟩ (.slice A2 (ps.length + 1) c2) = w3 at *
      clear HB HOP HNB HOPB HR2 HZ2 HW2 k0 k1 k2 k3 k4
      have hst := HH.out.below HBc.out
      have p1 := cell_heap (j := 1) hst.h rfl
      have f1 := frozen_heap (j := 1) hst.h
      have HS4 := hide (heap_set (j := 1) (u := .int .i64 (↑i + 1)) hst.h)
      have hr4 := heap_far (p := ⟨p, 1, none⟩) (u := .int .i64 (↑i + 1)) HR3.out (Nat.ne_of_gt HPW.out)
      have hz4 := heap_far (p := ⟨p, 1, none⟩) (u := .int .i64 (↑i + 1)) HZ3.out (Nat.ne_of_gt (Nat.lt_succ_of_lt HPW.out))
      have r0 := cell_heap (j := 0) hr4 rfl
      have r1 := cell_heap (j := 1) hr4 rfl
      have r2 := cell_heap (j := 2) hr4 rfl
      have r3 := cell_heap (j := 3) hr4 rfl
      have z0 := cell_heap (j := 0) hz4 rfl
      have z1 := cell_heap (j := 1) hz4 rfl
      have z2 := cell_heap (j := 2) hz4 rfl
      have z3 := cell_heap (j := 3) hz4 rfl
      have y0 := frozen_heap (j := 0) hz4
      have y1 := frozen_heap (j := 1) hz4
      have y2 := frozen_heap (j := 2) hz4
      have y3 := frozen_heap (j := 3) hz4
      have HO4 := hide (only_set (only_of_below (R := p) HBc.out) 1 (.int .i64 (↑i + 1)))
      have HSP := hide hst
      have HZ4 := hide hz4
      clear hst hr4 hz4
      go_wp2_with fail
      refine bodyPost_ret (v := .agg #[.int .i64 d, .slice A1 (ws.length + 1) c1, .slice A2 (ps.length + 1) c2, .bool b]) (by simp [results, Try.results70, go_sem, z0, z1, z2, z3]) rfl ?_
      have hoF := only_four HO4.out (Nat.le_succ w.heap.size) (.int .i64 d) (.slice A1 (ws.length + 1) c1) (.slice A2 (ps.length + 1) c2) (.bool b)
      exact ⟨hoF, HH.out.next hi hoF (far_four HS4.out (Nat.ne_of_lt (Nat.lt_succ_of_lt HPW.out)) _ _ _ _), _, _, rfl, own_four (own_cell HW3.out HSP.out.h (by decide)) HZ4.out (by decide) _ _ _ _, own_four (own_cell HP3.out HSP.out.h (by decide)) HZ4.out (by decide) _ _ _ _⟩
end
end Go.Proofs.Ytihmmmodimionaa.Tr
/- The document's reading: what stands while a statement is read. -/
namespace Go.Proofs.Ytihmmmodimionaa.Tr
open Go.RowKit Go.Proofs.Ytihmmmodimionaa Go.Proofs.Ytihmmmodimionaa.Lx

/-- a reading: its state, the rows and the braces that it owns -/
structure RdS (w0 w : World) (p : Nat) (A : Option Addr) (cap : Nat) (ts : List BTok) (i : Nat) (vr vb : Value) (rows : List RowD) (br : List Pl) (xs : List Value) (B : Nat → Prop) (e l c : Int) : Prop where
  st : StX w p A cap ts i vr vb e l c
  ro : Ro w0 w vr rows xs B
  br : w.ownsRow w0.heap.size 24 2 vb br.length (posC br.reverse)
  pl : p < w0.heap.size
  bB : ∀ g, vb.ownBlock = some g → ¬ B g
section
variable {w0 w x : World} {p : Nat} {A : Option Addr} {cap : Nat} {ts : List BTok} {i j : Nat} {vr vb : Value} {rows : List RowD} {br : List Pl} {xs : List Value} {B : Nat → Prop} {e l c e' l' c' : Int}
theorem RdS.only (h : RdS w0 w p A cap ts i vr vb rows br xs B e l c) (ho : Only p w x) (hs : StX x p A cap ts j vr vb e' l' c') : RdS w0 x p A cap ts j vr vb rows br xs B e' l' c' :=
  ⟨hs, h.ro.grow ho (fun b e => by cases e; exact h.pl), own_grow h.br ho (fun b e => by cases e; exact h.pl), h.pl, h.bB⟩
theorem RdS.below (h : RdS w0 w p A cap ts i vr vb rows br xs B e l c) (hb : Below w.heap.size w x) : RdS w0 x p A cap ts i vr vb rows br xs B e l c :=
  ⟨h.st.below hb, h.ro.grow (grown_of_below hb) (fun b e => by cases e), own_grow h.br (grown_of_below hb) (fun b e => by cases e), h.pl, h.bB⟩
end
/-- in one: the row that is made, the first place, the state -/
structure OX (w0 w wr : World) (p : Nat) (A : Option Addr) (cap : Nat) (ts : List BTok) (i : Nat) (vr vb : Value) (rows : List RowD) (br : List Pl) (xs : List Value) (B : Nat → Prop) (d : Int) (op : Bool) (f1 f2 : Int) (done : List BTok) (Aw : Option Addr) (cw : Nat) (Ap : Option Addr) (cp : Nat) : Prop where
  rd : RdS w0 wr p A cap ts i vr vb rows br xs B 0 0 0
  rb : wr.heap[w.heap.size]? = some (RowC d (.slice Aw done.length cw) (.slice Ap done.length cp) op)
  fb : wr.heap[w.heap.size + 1]? = some (PosC f1 f2)
  ow : wr.ownsRow w.heap.size 9 1 (.slice Aw done.length cw) done.length ((done.map BTok.b).map Value.string)
  ops : wr.ownsRow w.heap.size 24 2 (.slice Ap done.length cp) done.length (posC (done.map BTok.pos))
  o : Only p w wr
  pw : p < w.heap.size
  vl : ∀ g, vr.ownBlock = some g → g < w.heap.size
  bl : ∀ g, B g → g < w.heap.size
  bb : ∀ g, vb.ownBlock = some g → g < w.heap.size
section
variable {w0 w wr x : World} {p : Nat} {A : Option Addr} {cap : Nat} {ts : List BTok} {i j : Nat} {vr vb : Value} {rows : List RowD} {br : List Pl} {xs : List Value} {B : Nat → Prop} {d : Int} {op : Bool} {f1 f2 : Int} {done : List BTok} {Aw : Option Addr} {cw : Nat} {Ap : Option Addr} {cp : Nat}
theorem OX.below (h : OX w0 w wr p A cap ts i vr vb rows br xs B d op f1 f2 done Aw cw Ap cp) (hb : Below wr.heap.size wr x) : OX w0 w x p A cap ts i vr vb rows br xs B d op f1 f2 done Aw cw Ap cp :=
  ⟨h.rd.below hb, heapB hb h.rb, heapB hb h.fb, own_below h.ow hb, own_below h.ops hb, only_of h.o hb, h.pw, h.vl, h.bl, h.bb⟩
theorem OX.only (h : OX w0 w wr p A cap ts i vr vb rows br xs B d op f1 f2 done Aw cw Ap cp) (ho : Only p wr x) (hs : StX x p A cap ts j vr vb 0 0 0) : OX w0 w x p A cap ts j vr vb rows br xs B d op f1 f2 done Aw cw Ap cp := by
  have hp := h.pw
  exact ⟨h.rd.only ho hs, only_heap ho h.rb (by omega), only_heap ho h.fb (by omega), own_only h.ow ho hp, own_only h.ops ho hp, only_trans h.o ho, hp, h.vl, h.bl, h.bb⟩
/-- a word is taken -/
theorem OX.word {t : BTok} {e : Ending} (h : OX w0 w wr p A cap ts i vr vb rows br xs B d op f1 f2 done Aw cw Ap cp) (hw : WordOut p A cap ts i vr vb 0 0 0 d (done.map BTok.b) (done.map BTok.pos) op t wr e x) :
    OX w0 w x p A cap ts (i + 1) vr vb rows br xs B d op f1 f2 done Aw cw Ap cp ∧ ∃ Bw dw Bp dp, e = .returned (.agg #[.int .i64 d, .slice Bw (done ++ [t]).length dw, .slice Bp (done ++ [t]).length dp, .bool op]) ∧
      x.ownsRow wr.heap.size 9 1 (.slice Bw (done ++ [t]).length dw) (done ++ [t]).length (((done ++ [t]).map BTok.b).map Value.string) ∧ x.ownsRow wr.heap.size 24 2 (.slice Bp (done ++ [t]).length dp) (done ++ [t]).length (posC ((done ++ [t]).map BTok.pos)) ∧
      OX w0 w (four x w.heap.size (.int .i64 d) (.slice Bw (done ++ [t]).length dw) (.slice Bp (done ++ [t]).length dp) (.bool op)) p A cap ts (i + 1) vr vb rows br xs B d op f1 f2 (done ++ [t]) Bw dw Bp dp := by
  obtain ⟨ho, hst, vw, vp, rfl, how, hop⟩ := hw
  have h1 := h.only ho hst
  have hl : (done.map BTok.b).length + 1 = (done ++ [t]).length := by simp
  have hl' : (done.map BTok.pos).length + 1 = (done ++ [t]).length := by simp
  have e1 : (done.map BTok.b).map Value.string ++ [Value.string t.b] = ((done ++ [t]).map BTok.b).map Value.string := by simp
  have e2 : posC (done.map BTok.pos) ++ [.int .i64 t.l, .int .i64 t.c] = posC ((done ++ [t]).map BTok.pos) := by rw [List.map_append, posC_app]; rfl
  rw [hl, e1] at how
  rw [hl', e2] at hop
  obtain ⟨Bw, dw, rfl⟩ := own_slice how
  obtain ⟨Bp, dp, rfl⟩ := own_slice hop
  have hsz : w.heap.size < wr.heap.size := lt_heap h.rb
  have hpw := h.pw
  have hpne : p ≠ w.heap.size := by omega
  refine ⟨h1, Bw, dw, Bp, dp, rfl, how, hop, ?_⟩
  have hO := only_four h1.o (Nat.le_refl _) (.int .i64 d) (.slice Bw (done ++ [t]).length dw) (.slice Bp (done ++ [t]).length dp) (.bool op)
  have hb : ∀ g, g ≠ w.heap.size → (four x w.heap.size (.int .i64 d) (.slice Bw (done ++ [t]).length dw) (.slice Bp (done ++ [t]).length dp) (.bool op)).heap[g]? = x.heap[g]? := by
    intro g hg
    exact (Below.heap_setCell _ ⟨w.heap.size, 3, none⟩ _ g hg).trans ((Below.heap_setCell _ ⟨w.heap.size, 2, none⟩ _ g hg).trans ((Below.heap_setCell _ ⟨w.heap.size, 1, none⟩ _ g hg).trans (Below.heap_setCell _ ⟨w.heap.size, 0, none⟩ _ g hg)))
  refine ⟨?_, heap_set (j := 3) (heap_set (j := 2) (heap_set (j := 1) (heap_set (j := 0) h1.rb))), (hb _ (by omega)).trans h1.fb, own_base (own_four how h1.rb (by decide) _ _ _ _) (Nat.le_of_lt hsz), own_base (own_four hop h1.rb (by decide) _ _ _ _) (Nat.le_of_lt hsz), hO, hpw, h.vl, h.bl, h.bb⟩
  have h4 : Only w.heap.size x (four x w.heap.size (.int .i64 d) (.slice Bw (done ++ [t]).length dw) (.slice Bp (done ++ [t]).length dp) (.bool op)) := only_set (only_set (only_set (only_set (only_refl _ x) 0 _) 1 _) 2 _) 3 _
  have hvl : ∀ g, some w.heap.size = some g → vr.ownBlock ≠ some g := fun g e e' => by
    have h2 := h.vl g e'
    injection e with e
    omega
  refine ⟨⟨(hb _ hpne).trans hst.h, src_keep hst.t (fun a ha => hb _ ?_), hst.lt, hst.il, hst.nl⟩, ⟨own_kept h1.rd.ro.own h4 hvl, h1.rd.ro.rw'.keep (fun g hg => hb g (Nat.ne_of_lt (h.bl g hg))), fun g hg => ⟨(h1.rd.ro.hB g hg).1, Nat.lt_of_lt_of_le (h1.rd.ro.hB g hg).2.1 h4.size, (h1.rd.ro.hB g hg).2.2⟩⟩, own_four h1.rd.br h1.rb (by decide) _ _ _ _, h1.rd.pl, h1.rd.bB⟩
  have := hst.lt a ha
  omega
end
end Go.Proofs.Ytihmmmodimionaa.Tr
/- The document's reading: the leaves that are made, and what the ends of a statement leave. -/
namespace Go.Proofs.Ytihmmmodimionaa.Tr
open Go.RowKit Go.Proofs.Ytihmmmodimionaa Go.Proofs.Ytihmmmodimionaa.Lx

theorem below_grow {B : Nat} {w x y : World} {row : Option Nat} (h : Below B w x) (hg : x.grownBy y row) (hr : ∀ g, row = some g → B ≤ g) (hs : B ≤ x.heap.size) : Below B w y :=
  ⟨hg.os.trans h.os, hg.tape.trans h.tape, hg.output.trans h.output, Nat.le_trans h.size hg.size, fun i hi => (hg.block i (Nat.lt_of_lt_of_le hi hs) (fun e => by have := hr i e.symm; omega)).trans (h.block i hi)⟩
theorem only_grow2 {p : Nat} {w x y : World} {row : Option Nat} (h : Only p w x) (h2 : x.grownBy y row) (hb : ∀ g, row = some g → w.heap.size ≤ g) : Only p w y := by
  refine ⟨h2.os.trans h.os, h2.tape.trans h.tape, h2.output.trans h.output, Nat.le_trans h.size h2.size, fun i hi hne => ?_⟩
  rw [h2.block i (Nat.lt_of_lt_of_le hi h.size) (fun e => by have := hb i e.symm; omega)]
  exact h.block i hi hne
section
variable {w0 w wr x y : World} {p : Nat} {A : Option Addr} {cap : Nat} {ts : List BTok} {i j : Nat} {vr vb : Value} {rows : List RowD} {br : List Pl} {xs : List Value} {B : Nat → Prop} {d : Int} {op : Bool} {f1 f2 : Int} {done : List BTok} {Aw : Option Addr} {cw : Nat} {Ap : Option Addr} {cp : Nat}
theorem OX.grow {row : Option Nat} (h : OX w0 w wr p A cap ts i vr vb rows br xs B d op f1 f2 done Aw cw Ap cp) (hg : wr.grownBy y row) (hr : ∀ g, row = some g → w.heap.size + 1 < g) (hw : ∀ g, row = some g → (Value.slice Aw done.length cw).ownBlock ≠ some g) (hq : ∀ g, row = some g → (Value.slice Ap done.length cp).ownBlock ≠ some g) (hb : ∀ g, row = some g → vb.ownBlock ≠ some g) :
    OX w0 w y p A cap ts i vr vb rows br xs B d op f1 f2 done Aw cw Ap cp := by
  have hp := h.pw
  have hst := h.rd.st
  have hro := h.rd.ro
  refine ⟨⟨⟨heap_grown hst.h hg (fun e => by have := hr _ e; omega), src_keep hst.t (fun a ha => hg.block _ (Nat.lt_trans (hst.lt a ha) (lt_heap hst.h)) (fun e => by have h1 := hr _ e.symm; have h2 := hst.lt a ha; omega)), hst.lt, hst.il, hst.nl⟩, ⟨own_kept hro.own hg (fun g e e' => by have h1 := hr g e; have h2 := h.vl g e'; omega), hro.rw'.keep (fun b hb' => hg.block b (hro.hB b hb').2.1 (fun e => by have h1 := hr b e.symm; have h2 := h.bl b hb'; omega)), fun b hb' => ⟨(hro.hB b hb').1, Nat.lt_of_lt_of_le (hro.hB b hb').2.1 hg.size, (hro.hB b hb').2.2⟩⟩, own_kept h.rd.br hg hb, h.rd.pl, h.rd.bB⟩, heap_grown h.rb hg (fun e => by have := hr _ e; omega), heap_grown h.fb hg (fun e => by have := hr _ e; omega), own_kept h.ow hg hw, own_kept h.ops hg hq, only_grow2 h.o hg (fun g e => by have := hr g e; omega), hp, h.vl, h.bl, h.bb⟩
end
/-- .. and the leaves so far -/
structure OA (w0 w wr : World) (p : Nat) (A : Option Addr) (cap : Nat) (ts : List BTok) (i : Nat) (vr vb : Value) (rows : List RowD) (br : List Pl) (xs : List Value) (B : Nat → Prop) (d : Nat) (f1 f2 : Int) (done : List BTok) (Aw : Option Addr) (cw : Nat) (Ap : Option Addr) (cp : Nat) (va : Value) (all : List RowD) (ya : List Value) (D : Nat → Prop) : Prop where
  x : OX w0 w wr p A cap ts i vr vb rows br xs B d false f1 f2 done Aw cw Ap cp
  al : Ro w wr va all ya D
  vn : ∀ g, va.ownBlock = some g → w.heap.size + 1 < g
section
variable {w0 w wr x y : World} {p : Nat} {A : Option Addr} {cap : Nat} {ts : List BTok} {i j : Nat} {vr vb : Value} {rows : List RowD} {br : List Pl} {xs : List Value} {B : Nat → Prop} {d : Nat} {f1 f2 : Int} {done : List BTok} {Aw : Option Addr} {cw : Nat} {Ap : Option Addr} {cp : Nat} {va : Value} {all : List RowD} {ya : List Value} {D : Nat → Prop}
theorem ro_nil (w wr : World) : Ro w wr (.slice none 0 0) [] [] (fun _ => False) := ⟨⟨rfl, .inl ⟨rfl, rfl⟩⟩, rfl, fun b h => by cases h⟩
theorem OX.bare (h : OX w0 w wr p A cap ts i vr vb rows br xs B d false f1 f2 done Aw cw Ap cp) : OA w0 w wr p A cap ts i vr vb rows br xs B d f1 f2 done Aw cw Ap cp (.slice none 0 0) [] [] (fun _ => False) :=
  ⟨h, ro_nil w wr, fun g e => by cases e⟩
theorem OA.below (h : OA w0 w wr p A cap ts i vr vb rows br xs B d f1 f2 done Aw cw Ap cp va all ya D) (hb : Below wr.heap.size wr x) : OA w0 w x p A cap ts i vr vb rows br xs B d f1 f2 done Aw cw Ap cp va all ya D :=
  ⟨h.x.below hb, h.al.grow (grown_of_below hb) (fun b e => by cases e), h.vn⟩
theorem OA.only (h : OA w0 w wr p A cap ts i vr vb rows br xs B d f1 f2 done Aw cw Ap cp va all ya D) (ho : Only p wr x) (hs : StX x p A cap ts j vr vb 0 0 0) : OA w0 w x p A cap ts j vr vb rows br xs B d f1 f2 done Aw cw Ap cp va all ya D :=
  ⟨h.x.only ho hs, h.al.grow ho (fun b e => by injection e with e; have := h.x.pw; omega), h.vn⟩
/-- at is moved on -/
theorem OA.step (h : OA w0 w wr p A cap ts i vr vb rows br xs B d f1 f2 done Aw cw Ap cp va all ya D) (hi : i < ts.length) : OA w0 w (wr.setCell ⟨p, 1, none⟩ (.int .i64 (↑i + 1))) p A cap ts (i + 1) vr vb rows br xs B d f1 f2 done Aw cw Ap cp va all ya D :=
  h.only (only_set (only_refl p wr) 1 _) (h.x.rd.st.next hi (only_set (only_refl p wr) 1 _) (heap_set (j := 1) h.x.rd.st.h))
/-- a row behind the leaves: it is made of words of the call's own -/
theorem OA.add {qs : List RowD} {u v' : Value} {zs : List Value} {E : Nat → Prop} (h : OA w0 w x p A cap ts i vr vb rows br xs B d f1 f2 done Aw cw Ap cp va all ya D) (hq : Ro wr x u qs zs E) (hws : w.heap.size ≤ wr.heap.size) (hvw : ∀ g, va.ownBlock = some g → g < wr.heap.size)
    (ho : y.ownsRow w.heap.size 62 4 v' (all.length + qs.length) (ya ++ zs)) (hg : x.grownBy y va.ownBlock) (hk : v'.ownBlock = va.ownBlock ∨ v'.ownBlock = some x.heap.size) :
    OA w0 w y p A cap ts i vr vb rows br xs B d f1 f2 done Aw cw Ap cp v' (all ++ qs) (ya ++ zs) (fun b => D b ∨ E b) := by
  have hxs : w.heap.size + 1 < x.heap.size := lt_heap h.x.fb
  refine ⟨h.x.grow hg h.vn (fun g e => ?_) (fun g e => ?_) (fun g e => ?_), Ro.app h.al hq hvw hws ho hg hk, fun g e => ?_⟩
  · exact own_types h.al.own h.x.ow (by decide) g e
  · exact own_types h.al.own h.x.ops (by decide) g e
  · exact own_types h.al.own h.x.rd.br (by decide) g e
  · rcases hk with hk | hk
    · exact h.vn g (hk ▸ e)
    · rw [hk] at e; injection e with e; omega
/-- .. of the words so far and one more -/
theorem OA.leaf {t : BTok} {e : Ending} (h : OA w0 w wr p A cap ts i vr vb rows br xs B d f1 f2 done Aw cw Ap cp va all ya D) (hw : WordOut p A cap ts i vr vb 0 0 0 d (done.map BTok.b) (done.map BTok.pos) false t wr e x) :
    ∃ Bw dw Bp dp, e = .returned (.agg #[.int .i64 d, .slice Bw (done.length + 1) dw, .slice Bp (done.length + 1) dp, .bool false]) ∧
      OA w0 w (x.alloc (RowC d (.slice Bw (done.length + 1) dw) (.slice Bp (done.length + 1) dp) false)) p A cap ts (i + 1) vr vb rows br xs B d f1 f2 done Aw cw Ap cp va all ya D ∧
      ∃ E, Ro wr (x.alloc (RowC d (.slice Bw (done.length + 1) dw) (.slice Bp (done.length + 1) dp) false)) (.slice (some ⟨x.heap.size, 0, none⟩) 1 1) (leafR d done [t]) [.int .i64 d, .slice Bw (done.length + 1) dw, .slice Bp (done.length + 1) dp, .bool false] E := by
  have hws := h.x.o.size
  obtain ⟨ho, hst, vw, vp, rfl, how, hop⟩ := hw
  have h1 := h.only ho hst
  rw [List.length_map] at how hop
  have e1 : (done.map BTok.b).map Value.string ++ [Value.string t.b] = (done.map BTok.b ++ [t.b]).map Value.string := by simp
  have e2 : posC (done.map BTok.pos) ++ [.int .i64 t.l, .int .i64 t.c] = posC (done.map BTok.pos ++ [t.pos]) := by rw [posC_app]; rfl
  rw [e1] at how
  rw [e2] at hop
  obtain ⟨Bw, dw, rfl⟩ := own_slice how
  obtain ⟨Bp, dp, rfl⟩ := own_slice hop
  refine ⟨Bw, dw, Bp, dp, rfl, h1.below (bel_one x _), fun q => (Value.slice Bw (done.length + 1) dw).ownBlock = some q ∨ (Value.slice Bp (done.length + 1) dp).ownBlock = some q, ?_⟩
  have hl : done.length + 1 = (done.map BTok.b ++ [t.b]).length := by simp
  have hl' : done.length + 1 = (done.map BTok.pos ++ [t.pos]).length := by simp
  show Ro wr _ _ [⟨d, done.map BTok.b ++ [t.b], done.map BTok.pos ++ [t.pos], false⟩] _ _
  exact ro_one (w := wr) (d := d) (ws := done.map BTok.b ++ [t.b]) (ps := done.map BTok.pos ++ [t.pos]) (vw := .slice Bw (done.length + 1) dw) (vp := .slice Bp (done.length + 1) dp) false ho.size (by rw [← hl]; exact how) (by rw [← hl']; exact hop)
theorem leafR_app (d : Nat) (n : List BTok) : ∀ a b : List BTok, leafR d n (a ++ b) = leafR d n a ++ leafR d n b
  | [], _ => rfl
  | x :: xs, b => by rw [List.cons_append, leafR, leafR, leafR_app d n xs, List.cons_append]
/-- the words as a row of their own, in a new block -/
theorem OX.row {b op : Bool} {e : Int} (h : OX w0 w wr p A cap ts i vr vb rows br xs B e op f1 f2 done Aw cw Ap cp) (_he : e = (d : Int)) : ∃ E, Ro w (wr.alloc (RowC d (.slice Aw done.length cw) (.slice Ap done.length cp) b)) (.slice (some ⟨wr.heap.size, 0, none⟩) 1 1) [⟨d, done.map BTok.b, done.map BTok.pos, b⟩] [.int .i64 d, .slice Aw done.length cw, .slice Ap done.length cp, .bool b] E := by
  refine ⟨fun q => (Value.slice Aw done.length cw).ownBlock = some q ∨ (Value.slice Ap done.length cp).ownBlock = some q, ?_⟩
  exact ro_one (w := w) (d := d) (ws := done.map BTok.b) (ps := done.map BTok.pos) (vw := .slice Aw done.length cw) (vp := .slice Ap done.length cp) b h.o.size (by rw [List.length_map]; exact h.ow) (by rw [List.length_map]; exact h.ops)
end
section
variable {w0 w1 x y : World} {p : Nat} {A : Option Addr} {cap : Nat} {ts : List BTok} {i : Nat} {vr vb : Value} {rows : List RowD} {br : List Pl} {xs : List Value} {B : Nat → Prop}
/-- rows behind the rows: the new slice is kept in the state, at is moved on -/
theorem RdS.rows_app {qs : List RowD} {u v' : Value} {zs : List Value} {E : Nat → Prop} (h : RdS w0 x p A cap ts i vr vb rows br xs B 0 0 0) (hq : Ro w1 x u qs zs E) (hws : w0.heap.size ≤ w1.heap.size) (hvw : ∀ g, vr.ownBlock = some g → g < w1.heap.size)
    (ho : y.ownsRow w0.heap.size 62 4 v' (rows.length + qs.length) (xs ++ zs)) (hg : x.grownBy y vr.ownBlock) (hk : v'.ownBlock = vr.ownBlock ∨ v'.ownBlock = some x.heap.size) (hE : ∀ g, vb.ownBlock = some g → ¬ E g) :
    RdS w0 (y.setCell ⟨p, 2, none⟩ v') p A cap ts i v' vb (rows ++ qs) br (xs ++ zs) (fun b => B b ∨ E b) 0 0 0 := by
  have hp := h.pl
  have hst := h.st
  have hrow : ∀ g, vr.ownBlock = some g → w0.heap.size ≤ g := fun g e => (h.ro.own.lt g e).1
  have hap := Ro.app h.ro hq hvw hws ho hg hk
  have hpy : y.heap[p]? = _ := heap_grown hst.h hg (fun e => by have := hrow _ e; omega)
  have h4 : Only p y (y.setCell ⟨p, 2, none⟩ v') := only_set (only_refl p y) 2 v'
  refine ⟨⟨heap_set (j := 2) hpy, src_keep hst.t (fun a ha => ?_), hst.lt, hst.il, hst.nl⟩, hap.grow h4 (fun b e => by cases e; exact hp), own_grow (own_kept h.br hg (fun g e => own_types h.ro.own h.br (by decide) g e)) h4 (fun b e => by cases e; exact hp), hp, fun g e q => q.elim (h.bB g e) (hE g e)⟩
  have h1 := hst.lt a ha
  rw [h4.block a.block (Nat.lt_trans h1 (lt_heap hpy)) (fun e => by injection e with e; omega)]
  exact hg.block a.block (Nat.lt_trans h1 (lt_heap hst.h)) (fun e => by have := hrow _ e.symm; omega)
theorem RdS.step {e l c : Int} (h : RdS w0 x p A cap ts i vr vb rows br xs B e l c) (hi : i < ts.length) : RdS w0 (x.setCell ⟨p, 1, none⟩ (.int .i64 (↑i + 1))) p A cap ts (i + 1) vr vb rows br xs B e l c :=
  h.only (only_set (only_refl p x) 1 _) (h.st.next hi (only_set (only_refl p x) 1 _) (heap_set (j := 1) h.st.h))
/-- a brace behind the braces -/
theorem RdS.push {q : Pl} {v' : Value} (h : RdS w0 x p A cap ts i vr vb rows br xs B 0 0 0)
    (ho : y.ownsRow w0.heap.size 24 2 v' (br.length + 1) (posC br.reverse ++ [.int .i64 q.1, .int .i64 q.2])) (hg : x.grownBy y vb.ownBlock) (hk : v'.ownBlock = vb.ownBlock ∨ v'.ownBlock = some x.heap.size) :
    RdS w0 (y.setCell ⟨p, 3, none⟩ v') p A cap ts i vr v' rows (q :: br) xs B 0 0 0 := by
  have hp := h.pl
  have hst := h.st
  have hrow : ∀ g, vb.ownBlock = some g → w0.heap.size ≤ g := fun g e => (h.br.lt g e).1
  have hpy : y.heap[p]? = _ := heap_grown hst.h hg (fun e => by have := hrow _ e; omega)
  have h4 : Only p y (y.setCell ⟨p, 3, none⟩ v') := only_set (only_refl p y) 3 v'
  have hB := h.bB
  have hro : Ro w0 y vr rows xs B := ⟨own_kept h.ro.own hg (fun g e => own_types h.br h.ro.own (by decide) g e), h.ro.rw'.keep (fun b hb => hg.block b (h.ro.hB b hb).2.1 (fun e => hB b e.symm hb)), fun b hb => ⟨(h.ro.hB b hb).1, Nat.lt_of_lt_of_le (h.ro.hB b hb).2.1 hg.size, (h.ro.hB b hb).2.2⟩⟩
  refine ⟨⟨heap_set (j := 3) hpy, src_keep hst.t (fun a ha => ?_), hst.lt, hst.il, hst.nl⟩, hro.grow h4 (fun b e => by cases e; exact hp), own_grow (show y.ownsRow w0.heap.size 24 2 v' (q :: br).length (posC (q :: br).reverse) from by rw [List.length_cons, List.reverse_cons, posC_app]; exact ho) h4 (fun b e => by cases e; exact hp), hp, fun g e q => by
    rcases hk with hk | hk
    · exact hB g (hk ▸ e) q
    · rw [hk] at e
      injection e with e
      have := (h.ro.hB g q).2.1
      omega⟩
  have h1 := hst.lt a ha
  rw [h4.block a.block (Nat.lt_trans h1 (lt_heap hpy)) (fun e => by injection e with e; omega)]
  exact hg.block a.block (Nat.lt_trans h1 (lt_heap hst.h)) (fun e => by have := hrow _ e.symm; omega)
end
theorem StX.drew {w : World} {p : Nat} {A : Option Addr} {cap : Nat} {ts : List BTok} {i : Nat} {vr vb : Value} {e l c : Int} (h : StX w p A cap ts i vr vb e l c) : StX w.drew p A cap ts i vr vb e l c := ⟨h.h, h.t, h.lt, h.il, h.nl⟩
/-- what a drawn region loads -/
structure SZ (p : Nat) (A : Option Addr) (cap : Nat) (ts : List BTok) (i : Nat) (vr vb : Value) (rb : Nat) (o : Obj) (x : World) : Prop where
  st : StX x p A cap ts i vr vb 0 0 0
  rb : x.heap[rb]? = some o
theorem SZ.tl {p : Nat} {tb tq : Nat} {cap : Nat} {ts : List BTok} {i : Nat} {vr vb : Value} {rb : Nat} {o : Obj} {x : World} (h : SZ p (some ⟨tb, tq, none⟩) cap ts i vr vb rb o x) {u : BTok} {us : List BTok} (hd : ts.drop i = u :: us) : x.cell? ⟨tb, tq + i * 4 + 2, none⟩ = some (.int .i64 u.l) ∧ x.cell? ⟨tb, tq + i * 4 + 3, none⟩ = some (.int .i64 u.c) := by
  have hi : i < ts.length := by
    rcases Nat.lt_or_ge i ts.length with h1 | h1
    · exact h1
    · rw [List.drop_eq_nil_of_le h1] at hd; cases hd
  have hti : ts[i] = u := by rw [List.drop_eq_getElem_cons hi] at hd; injection hd
  obtain ⟨b, o, e, -, -, t2, t3⟩ := h.st.tok hi
  cases e
  rw [hti] at t2 t3
  exact ⟨t2, t3⟩
theorem drop_lt {ts : List BTok} {i : Nat} {u : BTok} {us : List BTok} (hd : ts.drop i = u :: us) : i < ts.length := by
  rcases Nat.lt_or_ge i ts.length with h1 | h1
  · exact h1
  · rw [List.drop_eq_nil_of_le h1] at hd; cases hd
theorem drop_next {ts : List BTok} {i : Nat} {u : BTok} {us : List BTok} (hd : ts.drop i = u :: us) : ts.drop (i + 1) = us := by
  rw [List.drop_eq_getElem_cons (drop_lt hd)] at hd
  injection hd
theorem drop_mem {ts : List BTok} {i : Nat} {u : BTok} {us : List BTok} (hd : ts.drop i = u :: us) : u ∈ ts := by
  have : u ∈ ts.drop i := by rw [hd]; simp
  exact List.mem_of_mem_drop this
theorem StX.tl {p : Nat} {tb tq : Nat} {cap : Nat} {ts : List BTok} {i : Nat} {vr vb : Value} {e l c : Int} {x : World} (h : StX x p (some ⟨tb, tq, none⟩) cap ts i vr vb e l c) {u : BTok} {us : List BTok} (hd : ts.drop i = u :: us) : x.cell? ⟨tb, tq + i * 4 + 2, none⟩ = some (.int .i64 u.l) ∧ x.cell? ⟨tb, tq + i * 4 + 3, none⟩ = some (.int .i64 u.c) := by
  have hti : ts[i]'(drop_lt hd) = u := by
    have h2 := hd
    rw [List.drop_eq_getElem_cons (drop_lt hd)] at h2
    injection h2
  obtain ⟨b, o, e, -, -, t2, t3⟩ := h.tok (drop_lt hd)
  cases e
  rw [hti] at t2 t3
  exact ⟨t2, t3⟩
theorem StX.grow {w x : World} {p : Nat} {A : Option Addr} {cap : Nat} {ts : List BTok} {i : Nat} {vr vb : Value} {e l c : Int} {row : Option Nat} (h : StX w p A cap ts i vr vb e l c) (hg : w.grownBy x row) (hr : ∀ g, row = some g → p < g) : StX x p A cap ts i vr vb e l c :=
  ⟨heap_grown h.h hg (fun e => by have := hr _ e; omega), src_keep h.t (fun a ha => hg.block _ (Nat.lt_trans (h.lt a ha) (lt_heap h.h)) (fun e => by have h1 := hr _ e.symm; have h2 := h.lt a ha; omega)), h.lt, h.il, h.nl⟩
section
variable {w0 w wr x y : World} {p : Nat} {A : Option Addr} {cap : Nat} {ts : List BTok} {i j : Nat} {vr vb : Value} {rows : List RowD} {br : List Pl} {xs : List Value} {B : Nat → Prop} {d : Int} {op : Bool} {f1 f2 : Int} {done : List BTok} {Aw : Option Addr} {cw : Nat} {Ap : Option Addr} {cp : Nat}
/-- the row is said to open a block -/
theorem OX.open (h : OX w0 w wr p A cap ts i vr vb rows br xs B d op f1 f2 done Aw cw Ap cp) : OX w0 w (wr.setCell ⟨w.heap.size, 3, none⟩ (.bool true)) p A cap ts i vr vb rows br xs B d true f1 f2 done Aw cw Ap cp := by
  have h4 : Only w.heap.size wr (wr.setCell ⟨w.heap.size, 3, none⟩ (.bool true)) := only_set (only_refl _ wr) 3 _
  have hp := h.pw
  have hst := h.rd.st
  have hvl : ∀ g, some w.heap.size = some g → vr.ownBlock ≠ some g := fun g e e' => by
    have h2 := h.vl g e'
    injection e with e
    omega
  have hbl : ∀ g, some w.heap.size = some g → vb.ownBlock ≠ some g := fun g e e' => by
    have h2 := h.bb g e'
    injection e with e
    omega
  refine ⟨⟨hst.grow h4 (fun g e => by injection e with e; omega), ⟨own_kept h.rd.ro.own h4 hvl, h.rd.ro.rw'.keep (fun g hg => h4.block g (h.rd.ro.hB g hg).2.1 (fun e => by injection e with e; have := h.bl g hg; omega)), fun g hg => ⟨(h.rd.ro.hB g hg).1, Nat.lt_of_lt_of_le (h.rd.ro.hB g hg).2.1 h4.size, (h.rd.ro.hB g hg).2.2⟩⟩, own_kept h.rd.br h4 hbl, h.rd.pl, h.rd.bB⟩, heap_set (j := 3) h.rb, only_heap h4 h.fb (by omega), own_kept h.ow h4 (fun g e => by cases e; exact own_ne_row h.ow h.rb (by decide)), own_kept h.ops h4 (fun g e => by cases e; exact own_ne_row h.ops h.rb (by decide)), only_grow2 h.o h4 (fun g e => by injection e with e; omega), hp, h.vl, h.bl, h.bb⟩
end
end Go.Proofs.Ytihmmmodimionaa.Tr
