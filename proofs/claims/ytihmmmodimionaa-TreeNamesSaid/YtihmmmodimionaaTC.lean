/- The reader of statements: words (printed by gen_tc.py). -/
import Derived.Test.YtihmmmodimionaaTB
import Derived.Deep.AppendLies
namespace Go.Proofs.Ytihmmmodimionaa.Tr
open Go.RowKit Go.Proofs.Ytihmmmodimionaa Go.Proofs.Ytihmmmodimionaa.Lx

theorem infoS : (Try.prog.info? 9).map (fun i => (i.zero, i.size, i.bytes)) = some (some (.string { data := #[] }), 1, 16) := by kernel_rfl
theorem infoP : (Try.prog.info? 24).map (fun i => (i.zero, i.size, i.bytes)) = some (some (.agg #[.int .i64 0, .int .i64 0]), 2, 16) := by kernel_rfl
theorem row_at {w : World} {g : Nat} {cs : List Value} {t : TypeId} (h : w.heap[g]? = some (.cells cs.toArray t (0, 0))) : ∀ (j : Nat) (u : Value), cs[j]? = some u → w.cell? ((⟨g, 0, none⟩ : Addr).add j) = some u := by
  intro j u hj
  rw [show (⟨g, 0, none⟩ : Addr).add j = ⟨g, j, none⟩ by simp [Addr.add, eq_comm]]
  exact cell_heap h (by simpa using hj)
abbrev NodeC (vw vp : Value) (b : Bool) (vk : Value) : Obj := .cells #[vw, vp, .bool b, vk] 44
abbrev TokC (t : BTok) : Obj := .cells #[.int .u8 t.k, .string t.b, .int .i64 t.l, .int .i64 t.c] 34
/-- the node that is made and the token that was taken -/
structure WS (B D : Nat) (vw vp : Value) (t : BTok) (w : World) : Prop where
  n : w.heap[B]? = some (.cells #[vw, vp, .bool false, .slice none 0 0] 44 (0, 0))
  t : w.heap[D]? = some (.cells #[.int .u8 t.k, .string t.b, .int .i64 t.l, .int .i64 t.c] 34 (0, 0))
theorem WS.alloc {B D : Nat} {vw vp : Value} {t : BTok} {w : World} (h : WS B D vw vp t w) (o : Obj) : WS B D vw vp t (w.alloc o) := ⟨heap_old h.n, heap_old h.t⟩
theorem WS.drew {B D : Nat} {vw vp : Value} {t : BTok} {w : World} (h : WS B D vw vp t w) : WS B D vw vp t w.drew := ⟨h.n, h.t⟩
theorem WS.grow {B D : Nat} {vw vp : Value} {t : BTok} {w w' : World} (h : WS B D vw vp t w) {base size n : Nat} {e : TypeId} {v : Value} {xs : List Value} (ho : w.ownsRow base e size v n xs) (hg : w.grownBy w' v.ownBlock) (h1 : e ≠ 44) (h2 : e ≠ 34) : WS B D vw vp t w' :=
  ⟨heap_grown h.n hg (own_ne_row ho h.n h1), heap_grown h.t hg (own_ne_row ho h.t h2)⟩
/-- words, in the loop -/
structure Wd (p : Nat) (w wr : World) (A : Option Addr) (cap : Nat) (done rest : List BTok) (vw vp : Value) : Prop where
  o : Only p w wr
  n : wr.heap[w.heap.size]? = some (.cells #[vw, vp, .bool false, .slice none 0 0] 44 (0, 0))
  ow : wr.ownsRow w.heap.size 9 1 vw done.length (done.map fun t => .string t.b)
  op : wr.ownsRow w.heap.size 24 2 vp done.length (posC (done.map BTok.pos))
  r : RdX wr p A cap rest 0 0 0
theorem RdX.only {w w' : World} {p : Nat} {A : Option Addr} {cap : Nat} {ts : List BTok} {e l c : Int} (h : RdX w p A cap ts e l c) {row : Option Nat} (hg : w.grownBy w' row) (hr : ∀ b, row = some b → p < b) : RdX w' p A cap ts e l c := by
  have hp := lt_heap h.h
  refine ⟨heap_grown h.h hg (fun e => by have := hr p e; omega), src_keep h.t (fun a ha => ?_), h.lt, h.cp, h.cm, h.kz⟩
  have h1 := h.lt a ha
  exact hg.block a.block (by omega) (fun e => by have := hr _ e.symm; omega)
/-- in the drawn region: what stands at the world x -/
structure Wz (w w3 x : World) (D : Nat) (vw0 vp0 : Value) (t : BTok) (vw : Value) (dw : List BTok) (vp : Value) (dp : List BTok) : Prop where
  b : Below w.heap.size w3 x
  s : WS w.heap.size D vw0 vp0 t x
  ow : x.ownsRow w.heap.size 9 1 vw dw.length (dw.map fun t => .string t.b)
  op : x.ownsRow w.heap.size 24 2 vp dp.length (posC (dp.map BTok.pos))
section
variable {w w3 x x' : World} {D : Nat} {vw0 vp0 vw vp v' : Value} {t : BTok} {dw dp : List BTok}
theorem Wz.size (h : Wz w w3 x D vw0 vp0 t vw dw vp dp) : w.heap.size ≤ x.heap.size := Nat.le_of_lt (lt_heap h.s.n)
theorem Wz.alloc (h : Wz w w3 x D vw0 vp0 t vw dw vp dp) (o : Obj) : Wz w w3 (x.alloc o) D vw0 vp0 t vw dw vp dp := ⟨h.b.alloc h.size o, h.s.alloc o, h.ow.alloc o, h.op.alloc o⟩
theorem Wz.str (h : Wz w w3 x D vw0 vp0 t vw dw vp dp) {n : Nat} (hn : n = dw.length + 1) (ho : x'.ownsRow w.heap.size 9 1 v' n ((dw.map fun t => .string t.b) ++ [.string t.b])) (hg : x.grownBy x' vw.ownBlock) : Wz w w3 x' D vw0 vp0 t v' (dw ++ [t]) vp dp := by
  subst hn
  refine ⟨h.b.grown hg h.size (fun k e => (h.ow.lt k e).1), h.s.grow h.ow hg (by decide) (by decide), by rw [List.length_append, List.map_append]; exact ho, h.op.kept hg ?_⟩
  cases hv : vp.ownBlock with
  | none => exact .inl rfl
  | some g => exact .inr (fun e => own_types h.op h.ow (by decide) g hv e.symm)
theorem Wz.pos (h : Wz w w3 x D vw0 vp0 t vw dw vp dp) {n : Nat} (hn : n = dp.length + 1) (ho : x'.ownsRow w.heap.size 24 2 v' n (posC (dp.map BTok.pos) ++ [.int .i64 t.l, .int .i64 t.c])) (hg : x.grownBy x' vp.ownBlock) : Wz w w3 x' D vw0 vp0 t vw dw v' (dp ++ [t]) := by
  subst hn
  refine ⟨h.b.grown hg h.size (fun k e => (h.op.lt k e).1), h.s.grow h.op hg (by decide) (by decide), h.ow.kept hg ?_, by rw [List.length_append, List.map_append, posC_app]; exact ho⟩
  cases hv : vw.ownBlock with
  | none => exact .inl rfl
  | some g => exact .inr (fun e => own_types h.ow h.op (by decide) g hv e.symm)
theorem Wz.done (h : Wz w w3 x D vw0 vp0 t vw dw vp dw) {p : Nat} {A : Option Addr} {cap : Nat} {rest : List BTok} (hp : p < w.heap.size) (ho : Only p w w3) (hr : RdX w3 p A cap rest 0 0 0) : Wd p w ((x.setCell ⟨w.heap.size, 0, none⟩ vw).setCell ⟨w.heap.size, 1, none⟩ vp) A cap dw rest vw vp := by
  have hb : Below w.heap.size w3 ((x.setCell ⟨w.heap.size, 0, none⟩ vw).setCell ⟨w.heap.size, 1, none⟩ vp) := (h.b.setCell (p := ⟨w.heap.size, 0, none⟩) (Nat.le_refl _) vw).setCell (p := ⟨w.heap.size, 1, none⟩) (Nat.le_refl _) vp
  have hw := own_ne_row h.ow h.s.n (by decide)
  have hp' := own_ne_row h.op h.s.n (by decide)
  refine ⟨⟨hb.os.trans ho.os, hb.tape.trans ho.tape, hb.output.trans ho.output, Nat.le_trans ho.size hb.size, fun i hi hne => ?_⟩, heap_set (j := 1) (u := vp) (heap_set (j := 0) (u := vw) h.s.n), ownsRow_setCell_other (ownsRow_setCell_other h.ow hw _) hw _, ownsRow_setCell_other (ownsRow_setCell_other h.op hp' _) hp' _, ?_, ?_, hr.lt, hr.cp, hr.cm, hr.kz⟩
  · rw [hb.block i hi]
    exact ho.block i hi hne
  · rw [hb.block p hp]
    exact hr.h
  · refine src_keep hr.t (fun a ha => hb.block a.block ?_)
    have := hr.lt a ha
    omega
end
/-- what words hands back -/
def WordsOut (p : Nat) (ts : List BTok) (w : World) (e' : Ending) (w' : World) : Prop :=
  ∃ A cap vw vp, e' = .returned (.agg #[vw, vp, .bool false, .slice none 0 0]) ∧ Wd p w w' A cap (wordsT ts) (behindT ts) vw vp
theorem Wd.back {p : Nat} {w wr : World} {A : Option Addr} {cap : Nat} {done rest : List BTok} {vw vp : Value} (h : Wd p w wr A cap done rest vw vp) (hp : p < w.heap.size) : Wd p w ((((wr.setCell ⟨w.heap.size, 0, none⟩ vw).setCell ⟨w.heap.size, 1, none⟩ vp).setCell ⟨w.heap.size, 2, none⟩ (.bool false)).setCell ⟨w.heap.size, 3, none⟩ (.slice none 0 0)) A cap done rest vw vp := by
  have hB := lt_heap h.n
  have hw := own_ne_row h.ow h.n (by decide)
  have hp' := own_ne_row h.op h.n (by decide)
  have hb : Below w.heap.size wr ((((wr.setCell ⟨w.heap.size, 0, none⟩ vw).setCell ⟨w.heap.size, 1, none⟩ vp).setCell ⟨w.heap.size, 2, none⟩ (.bool false)).setCell ⟨w.heap.size, 3, none⟩ (.slice none 0 0)) :=
    ((((Below.refl _ wr).setCell (p := ⟨w.heap.size, 0, none⟩) (Nat.le_refl _) vw).setCell (p := ⟨w.heap.size, 1, none⟩) (Nat.le_refl _) vp).setCell (p := ⟨w.heap.size, 2, none⟩) (Nat.le_refl _) _).setCell (p := ⟨w.heap.size, 3, none⟩) (Nat.le_refl _) _
  refine ⟨⟨hb.os.trans h.o.os, hb.tape.trans h.o.tape, hb.output.trans h.o.output, Nat.le_trans h.o.size hb.size, fun i hi hne => ?_⟩, ?_, ownsRow_setCell_other (ownsRow_setCell_other (ownsRow_setCell_other (ownsRow_setCell_other h.ow hw _) hw _) hw _) hw _, ownsRow_setCell_other (ownsRow_setCell_other (ownsRow_setCell_other (ownsRow_setCell_other h.op hp' _) hp' _) hp' _) hp' _, ?_, ?_, h.r.lt, h.r.cp, h.r.cm, h.r.kz⟩
  · rw [hb.block i hi]
    exact h.o.block i hi hne
  · exact heap_set (j := 3) (u := .slice none 0 0) (heap_set (j := 2) (u := .bool false) (heap_set (j := 1) (u := vp) (heap_set (j := 0) (u := vw) h.n)))
  · rw [hb.block p hp]
    exact h.r.h
  · refine src_keep h.r.t (fun a ha => hb.block a.block ?_)
    have := h.r.lt a ha
    omega
set_option maxHeartbeats 8000000 in
set_option maxRecDepth 100000 in
theorem words_any (p : Nat) (A : Option Addr) (cap : Nat) (ts : List BTok) (w : World) (h : RdX w p A cap ts 0 0 0) (hl : ts.length ≤ 100000) (hcm : cap ≤ maxLen) :
    Calls Try.prog 81 #[.pointer (some ⟨p, 0, none⟩)] w (WordsOut p ts w) := by
  have hp := lt_heap h.h
  obtain ⟨si, sz0, sz, ss, sb⟩ := info_parts infoS
  obtain ⟨qi, qz0, qz, qs, qb⟩ := info_parts infoP
  have HST : Hid (Wd p w (w.alloc (NodeC (.slice none 0 0) (.slice none 0 0) false (.slice none 0 0))) A cap [] ts (.slice none 0 0) (.slice none 0 0)) := hide ⟨only_alloc (only_refl p w) _, heap_new w _, ⟨rfl, .inl ⟨rfl, rfl⟩⟩, ⟨rfl, .inl ⟨rfl, rfl⟩⟩, h.below (bel_one w _)⟩
  clear h
  go_enter Try.func81, Try.ntmps81
  go_wp2_with fail
  go_loopg [3] ts.length (fun g _ wr => ∃ (A' : Option Addr) (cap' : Nat) (done rest : List BTok) (vw vp : Value), Wd p w wr A' cap' done rest vw vp ∧ rest.length ≤ g ∧ cap' ≤ maxLen ∧ done.length + rest.length ≤ 100000 ∧ wordsT ts = done ++ wordsT rest ∧ behindT ts = behindT rest)
  case atStart => exact ⟨A, cap, [], ts, _, _, HST.out, Nat.le_refl _, hcm, by simpa using hl, rfl, rfl⟩
  case round =>
    clear HST
    obtain ⟨A', cap', done, rest, vw, vp, hX, hg, hcap, hlen, e1, e2⟩ := hrel
    have HX := hide hX
    have HN := hide (next_any p A' cap' rest 0 0 0 wr hX.r (by omega))
    have HE := hide (And.intro e1 e2)
    have n0 := cell_heap (j := 0) hX.n rfl
    have n1 := cell_heap (j := 1) hX.n rfl
    have n2 := cell_heap (j := 2) hX.n rfl
    have n3 := cell_heap (j := 3) hX.n rfl
    clear hX e1 e2
    by_cases hk : kindT rest = 1
    · obtain ⟨t, rest', rfl⟩ : ∃ t r, rest = t :: r := by
        cases rest with
        | nil => simp [kindT] at hk
        | cons t r => exact ⟨t, r, rfl⟩
      have hk1 : t.k = 1 := hk
      rw [hk] at HN
      have HK := hide hk1
      clear hk hk1 n0 n1 n2 n3
      go_wp2_with fail
      refine HN.out.mono ?_
      rintro e w2 ⟨rfl, rfl⟩
      have HOF := hide (off_any p A' cap' t rest' 0 0 0 wr HX.out.r (by simp at hlen; omega) hcap)
      clear HN
      go_wp2_with fail
      refine HOF.out.mono ?_
      rintro e w3 ⟨rfl, ho3, A3, hr3⟩
      have hB : w.heap.size < wr.heap.size := lt_heap HX.out.n
      have hn3 := only_heap ho3 HX.out.n (by omega)
      have how3 := HX.out.ow.kept ho3 (by cases hv : vw.ownBlock with
        | none => exact .inl rfl
        | some g => exact .inr (fun e => by have := (HX.out.ow.lt g hv).1; injection e with e; omega))
      have hop3 := HX.out.op.kept ho3 (by cases hv : vp.ownBlock with
        | none => exact .inl rfl
        | some g => exact .inr (fun e => by have := (HX.out.op.lt g hv).1; injection e with e; omega))
      have HO3 := hide (only_trans HX.out.o ho3)
      have hB3 : w.heap.size < w3.heap.size := Nat.lt_of_lt_of_le hB ho3.size
      have HR3 := hide hr3
      have hws : WS w.heap.size w3.heap.size vw vp t (w3.alloc (TokC t)).drew := ⟨heap_old hn3, heap_new w3 _⟩
      have HWS := hide hws
      have HOW := hide (how3.alloc (TokC t))
      have HOP := hide (hop3.alloc (TokC t))
      have k0 := fun x => cell_heap (j := 0) (pin_in hws x).n rfl
      have k1 := fun x => cell_heap (j := 1) (pin_in hws x).n rfl
      have k2 := fun x => cell_heap (j := 1) (pin_in hws x).t rfl
      have k3 := fun x => cell_heap (j := 2) (pin_in hws x).t rfl
      have k4 := fun x => cell_heap (j := 3) (pin_in hws x).t rfl
      obtain ⟨Aw, cw, rfl⟩ := own_slice how3
      obtain ⟨Ap, cp, rfl⟩ := own_slice hop3
      clear HOF ho3 hn3 how3 hop3 hr3 hws
      go_wp2_with fail
      refine wp_region_tree (WS w.heap.size w3.heap.size (.slice Aw done.length cw) (.slice Ap done.length cp) t) (fun k => ([13, 14, 15] : List Nat).contains k) (.take [0, 1, 2, 3, 6, 7, 8, 9] (.fork 4 (.fork 5 (.take [12] (.step 10 (.step 11 (.step 13 (.step 14 (.step 15 .done)))))) 10 (.step 5 (.take [12] (.step 11 (.step 13 (.step 14 (.step 15 .done))))))) 10 (.step 4 (.step 5 (.take [12] (.step 11 (.step 13 (.step 14 (.step 15 .done))))))))) (by kernel_rfl) (by kernel_rfl) (by kernel_rfl) (by kernel_rfl) (.take (.cons (.zero) (.cons (.succ (.zero)) (.cons (.succ (.succ (.zero))) (.cons (.succ (.succ (.succ (.zero)))) (.cons (.succ (.succ (.succ (.succ (.succ (.succ (.zero))))))) (.cons (.succ (.succ (.succ (.succ (.succ (.succ (.succ (.zero)))))))) (.cons (.succ (.succ (.succ (.succ (.succ (.succ (.succ (.succ (.zero))))))))) (.cons (.succ (.succ (.succ (.succ (.succ (.succ (.succ (.succ (.succ (.zero)))))))))) .nil)))))))) (.fork (.succ (.succ (.succ (.succ (.zero))))) rfl (.fork (.succ (.succ (.succ (.succ (.succ (.zero)))))) rfl (.take (.cons (.succ (.succ (.succ (.succ (.succ (.succ (.succ (.succ (.succ (.succ (.succ (.succ (.zero))))))))))))) .nil) (.step (.succ (.succ (.succ (.succ (.succ (.succ (.succ (.succ (.succ (.succ (.zero))))))))))) rfl (.step (.succ (.succ (.succ (.succ (.succ (.succ (.succ (.succ (.succ (.succ (.succ (.zero)))))))))))) rfl (.step (.succ (.succ (.succ (.succ (.succ (.succ (.succ (.succ (.succ (.succ (.succ (.succ (.succ (.zero)))))))))))))) rfl (.step (.succ (.succ (.succ (.succ (.succ (.succ (.succ (.succ (.succ (.succ (.succ (.succ (.succ (.succ (.zero))))))))))))))) rfl (.step (.succ (.succ (.succ (.succ (.succ (.succ (.succ (.succ (.succ (.succ (.succ (.succ (.succ (.succ (.succ (.zero)))))))))))))))) rfl .done)))))) (.succ (.succ (.succ (.succ (.succ (.succ (.succ (.succ (.succ (.succ (.zero))))))))))) rfl (.step (.succ (.succ (.succ (.succ (.succ (.zero)))))) rfl (.take (.cons (.succ (.succ (.succ (.succ (.succ (.succ (.succ (.succ (.succ (.succ (.succ (.succ (.zero))))))))))))) .nil) (.step (.succ (.succ (.succ (.succ (.succ (.succ (.succ (.succ (.succ (.succ (.succ (.zero)))))))))))) rfl (.step (.succ (.succ (.succ (.succ (.succ (.succ (.succ (.succ (.succ (.succ (.succ (.succ (.succ (.zero)))))))))))))) rfl (.step (.succ (.succ (.succ (.succ (.succ (.succ (.succ (.succ (.succ (.succ (.succ (.succ (.succ (.succ (.zero))))))))))))))) rfl (.step (.succ (.succ (.succ (.succ (.succ (.succ (.succ (.succ (.succ (.succ (.succ (.succ (.succ (.succ (.succ (.zero)))))))))))))))) rfl .done))))))) (.succ (.succ (.succ (.succ (.succ (.succ (.succ (.succ (.succ (.succ (.zero))))))))))) rfl (.step (.succ (.succ (.succ (.succ (.zero))))) rfl (.step (.succ (.succ (.succ (.succ (.succ (.zero)))))) rfl (.take (.cons (.succ (.succ (.succ (.succ (.succ (.succ (.succ (.succ (.succ (.succ (.succ (.succ (.zero))))))))))))) .nil) (.step (.succ (.succ (.succ (.succ (.succ (.succ (.succ (.succ (.succ (.succ (.succ (.zero)))))))))))) rfl (.step (.succ (.succ (.succ (.succ (.succ (.succ (.succ (.succ (.succ (.succ (.succ (.succ (.succ (.zero)))))))))))))) rfl (.step (.succ (.succ (.succ (.succ (.succ (.succ (.succ (.succ (.succ (.succ (.succ (.succ (.succ (.succ (.zero))))))))))))))) rfl (.step (.succ (.succ (.succ (.succ (.succ (.succ (.succ (.succ (.succ (.succ (.succ (.succ (.succ (.succ (.succ (.zero)))))))))))))))) rfl .done))))))))) ?hQ ?hS ?_
      case hQ => exact fun _ _ _ _ _ h => h
      case hS => exact HWS.out
      refine wpT_take ?_
      repeat (first | go_big_quiet_step ((fail)) | quiet_step ((fail)))
      refine wpQuiet_nil ?_
      have HZ := hide (show Wz w w3 (w3.alloc (TokC t)).drew w3.heap.size (.slice Aw done.length cw) (.slice Ap done.length cp) t (.slice Aw done.length cw) done (.slice Ap done.length cp) done from ⟨(((Below.refl _ w3).alloc (Nat.le_of_lt hB3) _).drew), HWS.out, HOW.out, HOP.out⟩)
      clear HWS HOW HOP
      generalize (w3.alloc (TokC t)).drew = x0 at *
      refine wpT_fork ?_ ?_
      · refine wpT_step rfl ?_
        intro K1 hK1
        go_wp2_with fail
        have HZq := hide (HZ.out.alloc (Obj.cells #[.string t.b] 9))
        have HS := hide (heap_new x0 (Obj.cells #[.string t.b] 9))
        refine hK1.out _ _ (fun _ => pin_mem HZq.out.s) ?_
        clear HZ hK1; have HZ := HZq; clear HZq
        generalize hbks : x0.heap.size = bks at *
        generalize x0.alloc (Obj.cells #[.string t.b] 9) = x1 at *
        clear hbks
        refine wpT_fork ?_ ?_
        · refine wpT_step rfl ?_
          intro K1 hK1
          refine wp_append_lies _ (.tmp 10) (.tmp 13) 41 rfl w.heap.size 9 si _ 1 16 Try.underlying41 sz0 sz ss sb rfl (by decide) _ done.length (done.map fun (t : BTok) => Value.string t.b) rfl HZ.out.ow ⟨bks, 0, none⟩ 1 1 [.string t.b] rfl rfl (row_at HS.out) ?ones (by omega) ?c63 ?cby HZ.out.size _ rfl ?_
          case ones => simp [Value.oneCell']
          case c63 => simp at hlen; unfold maxLen; omega
          case cby => simp at hlen; omega
          intro gs cgs x2 hown hgrow _ _
          have HZq := hide (HZ.out.str rfl hown hgrow)
          refine hK1.out _ _ (fun _ => pin_mem HZq.out.s) ?_
          clear HZ hK1 hown hgrow; have HZ := HZq; clear HZq
          refine wpT_take ?_
          repeat (first | go_big_quiet_step ((fail)) | quiet_step ((fail)))
          refine wpQuiet_nil ?_
          refine wpT_step rfl ?_
          intro K1 hK1
          go_wp2_with fail
          have HZq := hide (HZ.out.alloc (Obj.cells #[.int .i64 t.l, .int .i64 t.c] 24))
          have HP := hide (heap_new x2 (Obj.cells #[.int .i64 t.l, .int .i64 t.c] 24))
          refine hK1.out _ _ (fun _ => pin_mem HZq.out.s) ?_
          clear HZ hK1; have HZ := HZq; clear HZq
          generalize hbkp : x2.heap.size = bkp at *
          generalize x2.alloc (Obj.cells #[.int .i64 t.l, .int .i64 t.c] 24) = x3 at *
          clear hbkp
          refine wpT_step rfl ?_
          intro K1 hK1
          refine wp_append_lies _ (.tmp 16) (.tmp 19) 42 rfl w.heap.size 24 qi _ 2 16 Try.underlying42 qz0 qz qs qb rfl (by decide) _ done.length (posC (done.map BTok.pos)) rfl HZ.out.op ⟨bkp, 0, none⟩ 1 1 [.int .i64 t.l, .int .i64 t.c] rfl rfl (row_at HP.out) ?ones (by omega) ?c63 ?cby HZ.out.size _ rfl ?_
          case ones => simp [Value.oneCell']
          case c63 => simp at hlen; unfold maxLen; omega
          case cby => simp at hlen; omega
          intro gp cgp x4 hown hgrow _ _
          have HZq := hide (HZ.out.pos rfl hown hgrow)
          refine hK1.out _ _ (fun _ => pin_mem HZq.out.s) ?_
          clear HZ hK1 hown hgrow; have HZ := HZq; clear HZq
          have hcs := cell_heap (j := 0) HZ.out.s.n rfl
          have hcf := frozen_heap (j := 0) HZ.out.s.n
          refine wpT_step rfl ?_
          intro K1 hK1
          go_wp2_with fail
          refine hK1.out _ _ (fun h => by cases h) ?_
          clear hK1 hcs hcf
          refine wpT_step rfl ?_
          intro K1 hK1
          go_wp2_with fail
          refine hK1.out _ _ (fun h => by cases h) ?_
          clear hK1
          have hn2 := heap_set (j := 0) (u := .slice (some ⟨gs, 0, none⟩) (done.length + 1) cgs) HZ.out.s.n
          have hcs := cell_heap (j := 1) hn2 rfl
          have hcf := frozen_heap (j := 1) hn2
          refine wpT_step rfl ?_
          intro K1 hK1
          go_wp2_with fail
          refine hK1.out _ _ (fun h => by cases h) ?_
          clear hK1 hcs hcf hn2
          refine wpT_done ?_
          have HD := hide (HZ.out.done hp HO3.out HR3.out)
          go_wp2_with fail
          go_roundg rest'.length
          case rel => exact ⟨_, _, done ++ [t], rest', _, _, HD.out, Nat.le_refl _, by omega, by simp at hlen ⊢; omega, by rw [HE.out.1, wordsT, if_pos HK.out]; simp, by rw [HE.out.2, behindT, if_pos HK.out]⟩
          case measure => simp at hg; omega
        · refine wpT_step rfl ?_
          intro K1 hK1
          go_wp2_with fail
          have HZq := hide (HZ.out.alloc (Obj.cells #[.int .i64 t.l, .int .i64 t.c] 24))
          have HP := hide (heap_new x1 (Obj.cells #[.int .i64 t.l, .int .i64 t.c] 24))
          have HSq := hide (heap_old (p := (Obj.cells #[.int .i64 t.l, .int .i64 t.c] 24)) HS.out); clear HS; have HS := HSq; clear HSq
          refine hK1.out _ _ (fun _ => pin_mem HZq.out.s) ?_
          clear HZ hK1; have HZ := HZq; clear HZq
          generalize hbkp : x1.heap.size = bkp at *
          generalize x1.alloc (Obj.cells #[.int .i64 t.l, .int .i64 t.c] 24) = x2 at *
          clear hbkp
          refine wpT_step rfl ?_
          intro K1 hK1
          refine wp_append_lies _ (.tmp 10) (.tmp 13) 41 rfl w.heap.size 9 si _ 1 16 Try.underlying41 sz0 sz ss sb rfl (by decide) _ done.length (done.map fun (t : BTok) => Value.string t.b) rfl HZ.out.ow ⟨bks, 0, none⟩ 1 1 [.string t.b] rfl rfl (row_at HS.out) ?ones (by omega) ?c63 ?cby HZ.out.size _ rfl ?_
          case ones => simp [Value.oneCell']
          case c63 => simp at hlen; unfold maxLen; omega
          case cby => simp at hlen; omega
          intro gs cgs x3 hown hgrow _ _
          have HZq := hide (HZ.out.str rfl hown hgrow)
          have HPq := hide (heap_grown HP.out hgrow (own_ne_row HZ.out.ow HP.out (by decide))); clear HP; have HP := HPq; clear HPq
          refine hK1.out _ _ (fun _ => pin_mem HZq.out.s) ?_
          clear HZ hK1 hown hgrow; have HZ := HZq; clear HZq
          refine wpT_take ?_
          repeat (first | go_big_quiet_step ((fail)) | quiet_step ((fail)))
          refine wpQuiet_nil ?_
          refine wpT_step rfl ?_
          intro K1 hK1
          refine wp_append_lies _ (.tmp 16) (.tmp 19) 42 rfl w.heap.size 24 qi _ 2 16 Try.underlying42 qz0 qz qs qb rfl (by decide) _ done.length (posC (done.map BTok.pos)) rfl HZ.out.op ⟨bkp, 0, none⟩ 1 1 [.int .i64 t.l, .int .i64 t.c] rfl rfl (row_at HP.out) ?ones (by omega) ?c63 ?cby HZ.out.size _ rfl ?_
          case ones => simp [Value.oneCell']
          case c63 => simp at hlen; unfold maxLen; omega
          case cby => simp at hlen; omega
          intro gp cgp x4 hown hgrow _ _
          have HZq := hide (HZ.out.pos rfl hown hgrow)
          refine hK1.out _ _ (fun _ => pin_mem HZq.out.s) ?_
          clear HZ hK1 hown hgrow; have HZ := HZq; clear HZq
          have hcs := cell_heap (j := 0) HZ.out.s.n rfl
          have hcf := frozen_heap (j := 0) HZ.out.s.n
          refine wpT_step rfl ?_
          intro K1 hK1
          go_wp2_with fail
          refine hK1.out _ _ (fun h => by cases h) ?_
          clear hK1 hcs hcf
          refine wpT_step rfl ?_
          intro K1 hK1
          go_wp2_with fail
          refine hK1.out _ _ (fun h => by cases h) ?_
          clear hK1
          have hn2 := heap_set (j := 0) (u := .slice (some ⟨gs, 0, none⟩) (done.length + 1) cgs) HZ.out.s.n
          have hcs := cell_heap (j := 1) hn2 rfl
          have hcf := frozen_heap (j := 1) hn2
          refine wpT_step rfl ?_
          intro K1 hK1
          go_wp2_with fail
          refine hK1.out _ _ (fun h => by cases h) ?_
          clear hK1 hcs hcf hn2
          refine wpT_done ?_
          have HD := hide (HZ.out.done hp HO3.out HR3.out)
          go_wp2_with fail
          go_roundg rest'.length
          case rel => exact ⟨_, _, done ++ [t], rest', _, _, HD.out, Nat.le_refl _, by omega, by simp at hlen ⊢; omega, by rw [HE.out.1, wordsT, if_pos HK.out]; simp, by rw [HE.out.2, behindT, if_pos HK.out]⟩
          case measure => simp at hg; omega
      · refine wpT_step rfl ?_
        intro K1 hK1
        go_wp2_with fail
        have HZq := hide (HZ.out.alloc (Obj.cells #[.int .i64 t.l, .int .i64 t.c] 24))
        have HP := hide (heap_new x0 (Obj.cells #[.int .i64 t.l, .int .i64 t.c] 24))
        refine hK1.out _ _ (fun _ => pin_mem HZq.out.s) ?_
        clear HZ hK1; have HZ := HZq; clear HZq
        generalize hbkp : x0.heap.size = bkp at *
        generalize x0.alloc (Obj.cells #[.int .i64 t.l, .int .i64 t.c] 24) = x1 at *
        clear hbkp
        refine wpT_step rfl ?_
        intro K1 hK1
        go_wp2_with fail
        have HZq := hide (HZ.out.alloc (Obj.cells #[.string t.b] 9))
        have HS := hide (heap_new x1 (Obj.cells #[.string t.b] 9))
        have HPq := hide (heap_old (p := (Obj.cells #[.string t.b] 9)) HP.out); clear HP; have HP := HPq; clear HPq
        refine hK1.out _ _ (fun _ => pin_mem HZq.out.s) ?_
        clear HZ hK1; have HZ := HZq; clear HZq
        generalize hbks : x1.heap.size = bks at *
        generalize x1.alloc (Obj.cells #[.string t.b] 9) = x2 at *
        clear hbks
        refine wpT_step rfl ?_
        intro K1 hK1
        refine wp_append_lies _ (.tmp 10) (.tmp 13) 41 rfl w.heap.size 9 si _ 1 16 Try.underlying41 sz0 sz ss sb rfl (by decide) _ done.length (done.map fun (t : BTok) => Value.string t.b) rfl HZ.out.ow ⟨bks, 0, none⟩ 1 1 [.string t.b] rfl rfl (row_at HS.out) ?ones (by omega) ?c63 ?cby HZ.out.size _ rfl ?_
        case ones => simp [Value.oneCell']
        case c63 => simp at hlen; unfold maxLen; omega
        case cby => simp at hlen; omega
        intro gs cgs x3 hown hgrow _ _
        have HZq := hide (HZ.out.str rfl hown hgrow)
        have HPq := hide (heap_grown HP.out hgrow (own_ne_row HZ.out.ow HP.out (by decide))); clear HP; have HP := HPq; clear HPq
        refine hK1.out _ _ (fun _ => pin_mem HZq.out.s) ?_
        clear HZ hK1 hown hgrow; have HZ := HZq; clear HZq
        refine wpT_take ?_
        repeat (first | go_big_quiet_step ((fail)) | quiet_step ((fail)))
        refine wpQuiet_nil ?_
        refine wpT_step rfl ?_
        intro K1 hK1
        refine wp_append_lies _ (.tmp 16) (.tmp 19) 42 rfl w.heap.size 24 qi _ 2 16 Try.underlying42 qz0 qz qs qb rfl (by decide) _ done.length (posC (done.map BTok.pos)) rfl HZ.out.op ⟨bkp, 0, none⟩ 1 1 [.int .i64 t.l, .int .i64 t.c] rfl rfl (row_at HP.out) ?ones (by omega) ?c63 ?cby HZ.out.size _ rfl ?_
        case ones => simp [Value.oneCell']
        case c63 => simp at hlen; unfold maxLen; omega
        case cby => simp at hlen; omega
        intro gp cgp x4 hown hgrow _ _
        have HZq := hide (HZ.out.pos rfl hown hgrow)
        refine hK1.out _ _ (fun _ => pin_mem HZq.out.s) ?_
        clear HZ hK1 hown hgrow; have HZ := HZq; clear HZq
        have hcs := cell_heap (j := 0) HZ.out.s.n rfl
        have hcf := frozen_heap (j := 0) HZ.out.s.n
        refine wpT_step rfl ?_
        intro K1 hK1
        go_wp2_with fail
        refine hK1.out _ _ (fun h => by cases h) ?_
        clear hK1 hcs hcf
        refine wpT_step rfl ?_
        intro K1 hK1
        go_wp2_with fail
        refine hK1.out _ _ (fun h => by cases h) ?_
        clear hK1
        have hn2 := heap_set (j := 0) (u := .slice (some ⟨gs, 0, none⟩) (done.length + 1) cgs) HZ.out.s.n
        have hcs := cell_heap (j := 1) hn2 rfl
        have hcf := frozen_heap (j := 1) hn2
        refine wpT_step rfl ?_
        intro K1 hK1
        go_wp2_with fail
        refine hK1.out _ _ (fun h => by cases h) ?_
        clear hK1 hcs hcf hn2
        refine wpT_done ?_
        have HD := hide (HZ.out.done hp HO3.out HR3.out)
        go_wp2_with fail
        go_roundg rest'.length
        case rel => exact ⟨_, _, done ++ [t], rest', _, _, HD.out, Nat.le_refl _, by omega, by simp at hlen ⊢; omega, by rw [HE.out.1, wordsT, if_pos HK.out]; simp, by rw [HE.out.2, behindT, if_pos HK.out]⟩
        case measure => simp at hg; omega
    · have hkb : (kindT rest == 1) = false := by simpa using hk
      have e3 : wordsT rest = [] ∧ behindT rest = rest := by
        cases rest with
        | nil => exact ⟨rfl, rfl⟩
        | cons t r =>
          have hk1 : ¬ t.k = 1 := hk
          exact ⟨by rw [wordsT, if_neg hk1], by rw [behindT, if_neg hk1]⟩
      have HF := hide (show Wd p w ((((wr.setCell ⟨w.heap.size, 0, none⟩ vw).setCell ⟨w.heap.size, 1, none⟩ vp).setCell ⟨w.heap.size, 2, none⟩ (.bool false)).setCell ⟨w.heap.size, 3, none⟩ (.slice none 0 0)) A' cap' (wordsT ts) (behindT ts) vw vp from by
        rw [HE.out.1, HE.out.2, e3.1, e3.2, List.append_nil]
        exact HX.out.back hp)
      have g0 := frozen_heap (j := 0) HX.out.n
      have g1 := frozen_heap (j := 1) HX.out.n
      have g2 := frozen_heap (j := 2) HX.out.n
      have g3 := frozen_heap (j := 3) HX.out.n
      obtain ⟨Aw, cw, rfl⟩ := own_slice HX.out.ow
      obtain ⟨Ap, cp, rfl⟩ := own_slice HX.out.op
      clear hk e3
      go_wp2_with fail
      refine HN.out.mono ?_
      rintro e w2 ⟨rfl, rfl⟩
      clear HN HX HE
      go_wp2_with fail
      generalize (((wr.setCell ⟨w.heap.size, 0, none⟩ (.slice Aw done.length cw)).setCell ⟨w.heap.size, 1, none⟩ (.slice Ap done.length cp)).setCell ⟨w.heap.size, 2, none⟩ (.bool false)).setCell ⟨w.heap.size, 3, none⟩ (.slice none 0 0) = wf at *
      have q0 := cell_heap (j := 0) HF.out.n rfl
      have q1 := cell_heap (j := 1) HF.out.n rfl
      have q2 := cell_heap (j := 2) HF.out.n rfl
      have q3 := cell_heap (j := 3) HF.out.n rfl
      refine bodyPost_ret (v := .agg #[.slice Aw done.length cw, .slice Ap done.length cp, .bool false, .slice none 0 0]) (by simp [results, Try.results81, go_sem, q0, q1, q2, q3]) rfl ?_
      exact ⟨A', cap', _, _, rfl, HF.out⟩
end Go.Proofs.Ytihmmmodimionaa.Tr
