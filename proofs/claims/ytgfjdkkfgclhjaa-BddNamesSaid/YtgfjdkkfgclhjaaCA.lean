/- below and Support: what the visit has in memory; the closure that collects. -/
import Derived.Test.YtgfjdkkfgclhjaaBY
namespace Go.Proofs.Ytgfjdkkfgclhjaa.Bd
open Go.RowKit Go.Proofs.Ytgfjdkkfgclhjaa Go.Proofs.Ytgfjdkkfgclhjaa.Lx Go.Maps

/-- what the visit has in memory: fr was met, gr was told -/
structure Bs (w0 w : World) (nd : List Nd) (p b1 b2 b3 b4 sb bo ba : Nat) (fr gr : List Nat) : Prop where
  c1 : w.heap[b1]? = some (.cells #[.map (some sb)] 63 (0, 0))
  c2 : w.heap[b2]? = some (.cells #[.func (.func 48) #[] #[.pointer (some ⟨bo, 0, none⟩), .pointer (some ⟨ba, 0, none⟩)]] 87 (0, 0))
  c3 : w.heap[b3]? = some (.cells #[.func (.func 59) #[] #[.pointer (some ⟨b1, 0, none⟩), .pointer (some ⟨b2, 0, none⟩), .pointer (some ⟨b3, 0, none⟩), .pointer (some ⟨b4, 0, none⟩)]] 87 (0, 0))
  c4 : w.heap[b4]? = some (.cells #[.pointer (some ⟨p, 0, none⟩)] 24 (0, 0))
  ca : w.heap[ba]? = some (.cells #[.pointer (some ⟨p, 0, none⟩)] 24 (0, 0))
  seen : MSet Try.prog w 21 4 sb (fr.length + 2) (fr.length + 2) enc3 (seenB fr)
  row : ∃ v, w.heap[bo]? = some (.cells #[v] 37 (0, 0)) ∧ w.ownsRow w0.heap.size 3 1 v gr.length (gr.map fun (x : Nat) => encI (topOf nd x))
  below : Below w0.heap.size w0 w
  l1 : w0.heap.size ≤ b1
  l2 : w0.heap.size ≤ b2
  l3 : w0.heap.size ≤ b3
  l4 : w0.heap.size ≤ b4
  l5 : w0.heap.size ≤ sb
  l6 : w0.heap.size ≤ bo
  l7 : w0.heap.size ≤ ba
theorem infoT : (Try.prog.info? 3).map (fun i => (i.zero, i.size, i.bytes)) = some (some (.int .i64 0), 1, 8) := by kernel_rfl

variable {w0 w w' : World} {nd : List Nd} {p b1 b2 b3 b4 sb bo ba : Nat} {fr gr : List Nat}
theorem Bs.drew (V : Bs w0 w nd p b1 b2 b3 b4 sb bo ba fr gr) : Bs w0 w.drew nd p b1 b2 b3 b4 sb bo ba fr gr := ⟨V.c1, V.c2, V.c3, V.c4, V.ca, V.seen, V.row, V.below.drew, V.l1, V.l2, V.l3, V.l4, V.l5, V.l6, V.l7⟩
/-- .. a node is marked as met -/
theorem Bs.mark (V : Bs w0 w nd p b1 b2 b3 b4 sb bo ba fr gr) {f : Nat} (hm : MSet Try.prog w' 21 4 sb (fr.length + 2 + 1) (fr.length + 2 + 1) enc3 (seenB (fr ++ [f]))) (hg : w.mapTurned w' sb) : Bs w0 w' nd p b1 b2 b3 b4 sb bo ba (fr ++ [f]) gr := by
  obtain ⟨es, cl, hs⟩ := V.seen.heap
  obtain ⟨v, hv, hr⟩ := V.row
  have hg := hg.grown
  have ne : ∀ {b : Nat} {cs : Array Value} {t : TypeId}, w.heap[b]? = some (.cells cs t (0, 0)) → some sb ≠ some b := fun h => opt_ne (Ne.symm (ne_kind h hs))
  have hl : (fr ++ [f]).length = fr.length + 1 := by simp
  refine ⟨heap_grown V.c1 hg (ne V.c1), heap_grown V.c2 hg (ne V.c2), heap_grown V.c3 hg (ne V.c3), heap_grown V.c4 hg (ne V.c4), heap_grown V.ca hg (ne V.ca), by rw [hl]; exact hm, ⟨v, heap_grown hv hg (ne hv), own_kept hr hg (fun g e1 e2 => ?_)⟩, V.below.grown hg V.below.size (fun b e => by injection e with e; have := V.l5; omega), V.l1, V.l2, V.l3, V.l4, V.l5, V.l6, V.l7⟩
  injection e1 with e1
  subst e1
  exact own_ne_map hr hs e2
/-- .. and told -/
theorem Bs.put {w2 : World} {f : Nat} {v v' : Value} (V : Bs w0 w nd p b1 b2 b3 b4 sb bo ba fr gr) (e3 : w.heap[bo]? = some (.cells #[v] 37 (0, 0))) (hr : w.ownsRow w0.heap.size 3 1 v gr.length (gr.map fun (x : Nat) => encI (topOf nd x)))
    (o : Obj) (hown : w2.ownsRow w0.heap.size 3 1 v' (gr.length + 1) ((gr.map fun (x : Nat) => encI (topOf nd x)) ++ [.int .i64 (topOf nd f)])) (hg : (w.alloc o).grownBy w2 v.ownBlock) :
    w2.heap[bo]? = some (.cells #[v] 37 (0, 0)) ∧ Bs w0 (w2.setCell ⟨bo, 0, none⟩ v') nd p b1 b2 b3 b4 sb bo ba fr (gr ++ [f]) := by
  have hl : (gr ++ [f]).length = gr.length + 1 := by simp
  have hr1 := hr.alloc o
  have f1 := heap_grown (heap_old (p := o) V.c1) hg (own_ne_row hr1 (heap_old V.c1) (by decide))
  have f2 := heap_grown (heap_old (p := o) V.c2) hg (own_ne_row hr1 (heap_old V.c2) (by decide))
  have f3 := heap_grown (heap_old (p := o) V.c3) hg (own_ne_row hr1 (heap_old V.c3) (by decide))
  have f4 := heap_grown (heap_old (p := o) V.c4) hg (own_ne_row hr1 (heap_old V.c4) (by decide))
  have f5 := heap_grown (heap_old (p := o) V.ca) hg (own_ne_row hr1 (heap_old V.ca) (by decide))
  have f6 := heap_grown (heap_old (p := o) e3) hg (own_ne_row hr1 (heap_old e3) (by decide))
  have em1 := V.seen.kept (World.grownBy_alloc w o none) (by simp)
  obtain ⟨es1, cl1, hs1⟩ := em1.heap
  have em2 := em1.kept hg (fun e => own_ne_map hr1 hs1 e.symm)
  obtain ⟨es2, cl2, hs2⟩ := em2.heap
  refine ⟨f6, heap_far f1 (heap_ne f1 f6 (by decide)), heap_far f2 (heap_ne f2 f6 (by decide)), heap_far f3 (heap_ne f3 f6 (by decide)), heap_far f4 (heap_ne f4 f6 (by decide)), heap_far f5 (heap_ne f5 f6 (by decide)), em2.setCell (Ne.symm (ne_kind f6 hs2)) _, ⟨v', ?_, ?_⟩, ?_, V.l1, V.l2, V.l3, V.l4, V.l5, V.l6, V.l7⟩
  · rw [heap_set f6]; simp
  · rw [hl, List.map_append]
    refine own_kept hown grown_set (fun g e1 e2 => ?_)
    injection e1 with e1
    subst e1
    exact own_ne_row hown f6 (by decide) e2
  · exact ((V.below.alloc V.below.size o).grown hg (by have := V.below.size; simp; omega) (fun b e => (hr1.lt b e).1)).setCell V.l6 _
set_option maxHeartbeats 4000000 in
set_option maxRecDepth 100000 in
theorem support1_any (k : Blk) (s : St) (f : Nat) (H : Ar w k s) (hp : k.p = p) (hf : f < s.nd.length) (hm : s.m + 2 ≤ 1000000000) (hgl : gr.length ≤ 1000000000) (V : Bs w0 w s.nd p b1 b2 b3 b4 sb bo ba fr gr) :
    Calls Try.prog 48 #[.int .i32 f, .pointer (some ⟨bo, 0, none⟩), .pointer (some ⟨ba, 0, none⟩)] w fun e w' => e = .returned (.tuple #[]) ∧ Bs w0 w' s.nd p b1 b2 b3 b4 sb bo ba fr (gr ++ [f]) := by
  subst hp
  obtain ⟨fb, ft, H, I⟩ := H
  obtain ⟨⟨t, lo, hi⟩, hx⟩ : ∃ x, s.nd[f]? = some x := ⟨_, List.getElem?_eq_getElem hf⟩
  have htop : topOf s.nd f = t := by unfold topOf; rw [hx]
  have ht : t ≤ 256 := by
    obtain ⟨t', F', d'⟩ := I.wf.den f hf
    rw [← htop, topOf_den I.wf d']
    exact d'.top.1
  have hnm := I.nm
  obtain ⟨n0, n1, n2⟩ := H.drew.node hx
  have c2 := H.drew.c2
  obtain ⟨v, e3, hr⟩ := V.row
  obtain ⟨A3, C3, rfl⟩ := own_slice hr
  have ka := cell_heap (j := 0) V.drew.ca rfl
  have k0 := cell_heap (w := w.drew) (j := 0) e3 rfl
  have k0' : ∀ o, (w.drew.alloc o).cell? ⟨bo, 0, none⟩ = some (.slice A3 gr.length C3) := fun o => cell_heap (heap_old (w := w.drew) e3) rfl
  have hfi : (f : Int) < s.nd.length := by omega
  obtain ⟨i1, hi1, iz1, is1, ib1⟩ := info_at infoT
  have HR := hide (show w.drew.ownsRow w0.heap.size 3 1 (.slice A3 gr.length C3) gr.length (gr.map fun (x : Nat) => encI (topOf s.nd x)) from hr)
  have HV := hide V.drew
  have E3 := hide (show w.drew.heap[bo]? = some (.cells #[.slice A3 gr.length C3] 37 (0, 0)) from e3)
  have HT := hide htop
  clear H I V e3 hr hx htop
  go_enter Try.func48, Try.ntmps48
  go_wp2_with fail
  refine wp_region_paths 12 [5] [[0, 1, 2, 3, 4, 6, 7, 8, 9, 10, 11, 12], [1, 0, 2, 3, 4, 6, 7, 8, 9, 10, 11, 12], [1, 2, 0, 3, 4, 6, 7, 8, 9, 10, 11, 12], [1, 2, 3, 0, 4, 6, 7, 8, 9, 10, 11, 12], [1, 2, 3, 4, 0, 6, 7, 8, 9, 10, 11, 12], [1, 2, 3, 4, 6, 0, 7, 8, 9, 10, 11, 12], [1, 2, 3, 4, 6, 7, 0, 8, 9, 10, 11, 12], [1, 2, 3, 4, 6, 7, 8, 0, 9, 10, 11, 12], [1, 2, 3, 4, 6, 7, 8, 9, 0, 10, 11, 12], [1, 2, 3, 4, 6, 7, 8, 9, 10, 0, 11, 12]] (by kernel_rfl) (by kernel_rfl) (by kernel_rfl) (by kernel_rfl) (.cons (.succ (.succ (.succ (.succ (.succ (.zero)))))) .nil) (.cons (.cons (.zero) (.cons (.succ (.zero)) (.cons (.succ (.succ (.zero))) (.cons (.succ (.succ (.succ (.zero)))) (.cons (.succ (.succ (.succ (.succ (.zero))))) (.cons (.succ (.succ (.succ (.succ (.succ (.succ (.zero))))))) (.cons (.succ (.succ (.succ (.succ (.succ (.succ (.succ (.zero)))))))) (.cons (.succ (.succ (.succ (.succ (.succ (.succ (.succ (.succ (.zero))))))))) (.cons (.succ (.succ (.succ (.succ (.succ (.succ (.succ (.succ (.succ (.zero)))))))))) (.cons (.succ (.succ (.succ (.succ (.succ (.succ (.succ (.succ (.succ (.succ (.zero))))))))))) (.cons (.succ (.succ (.succ (.succ (.succ (.succ (.succ (.succ (.succ (.succ (.succ (.zero)))))))))))) (.cons (.succ (.succ (.succ (.succ (.succ (.succ (.succ (.succ (.succ (.succ (.succ (.succ (.zero))))))))))))) .nil)))))))))))) (.cons (.cons (.succ (.zero)) (.cons (.zero) (.cons (.succ (.succ (.zero))) (.cons (.succ (.succ (.succ (.zero)))) (.cons (.succ (.succ (.succ (.succ (.zero))))) (.cons (.succ (.succ (.succ (.succ (.succ (.succ (.zero))))))) (.cons (.succ (.succ (.succ (.succ (.succ (.succ (.succ (.zero)))))))) (.cons (.succ (.succ (.succ (.succ (.succ (.succ (.succ (.succ (.zero))))))))) (.cons (.succ (.succ (.succ (.succ (.succ (.succ (.succ (.succ (.succ (.zero)))))))))) (.cons (.succ (.succ (.succ (.succ (.succ (.succ (.succ (.succ (.succ (.succ (.zero))))))))))) (.cons (.succ (.succ (.succ (.succ (.succ (.succ (.succ (.succ (.succ (.succ (.succ (.zero)))))))))))) (.cons (.succ (.succ (.succ (.succ (.succ (.succ (.succ (.succ (.succ (.succ (.succ (.succ (.zero))))))))))))) .nil)))))))))))) (.cons (.cons (.succ (.zero)) (.cons (.succ (.succ (.zero))) (.cons (.zero) (.cons (.succ (.succ (.succ (.zero)))) (.cons (.succ (.succ (.succ (.succ (.zero))))) (.cons (.succ (.succ (.succ (.succ (.succ (.succ (.zero))))))) (.cons (.succ (.succ (.succ (.succ (.succ (.succ (.succ (.zero)))))))) (.cons (.succ (.succ (.succ (.succ (.succ (.succ (.succ (.succ (.zero))))))))) (.cons (.succ (.succ (.succ (.succ (.succ (.succ (.succ (.succ (.succ (.zero)))))))))) (.cons (.succ (.succ (.succ (.succ (.succ (.succ (.succ (.succ (.succ (.succ (.zero))))))))))) (.cons (.succ (.succ (.succ (.succ (.succ (.succ (.succ (.succ (.succ (.succ (.succ (.zero)))))))))))) (.cons (.succ (.succ (.succ (.succ (.succ (.succ (.succ (.succ (.succ (.succ (.succ (.succ (.zero))))))))))))) .nil)))))))))))) (.cons (.cons (.succ (.zero)) (.cons (.succ (.succ (.zero))) (.cons (.succ (.succ (.succ (.zero)))) (.cons (.zero) (.cons (.succ (.succ (.succ (.succ (.zero))))) (.cons (.succ (.succ (.succ (.succ (.succ (.succ (.zero))))))) (.cons (.succ (.succ (.succ (.succ (.succ (.succ (.succ (.zero)))))))) (.cons (.succ (.succ (.succ (.succ (.succ (.succ (.succ (.succ (.zero))))))))) (.cons (.succ (.succ (.succ (.succ (.succ (.succ (.succ (.succ (.succ (.zero)))))))))) (.cons (.succ (.succ (.succ (.succ (.succ (.succ (.succ (.succ (.succ (.succ (.zero))))))))))) (.cons (.succ (.succ (.succ (.succ (.succ (.succ (.succ (.succ (.succ (.succ (.succ (.zero)))))))))))) (.cons (.succ (.succ (.succ (.succ (.succ (.succ (.succ (.succ (.succ (.succ (.succ (.succ (.zero))))))))))))) .nil)))))))))))) (.cons (.cons (.succ (.zero)) (.cons (.succ (.succ (.zero))) (.cons (.succ (.succ (.succ (.zero)))) (.cons (.succ (.succ (.succ (.succ (.zero))))) (.cons (.zero) (.cons (.succ (.succ (.succ (.succ (.succ (.succ (.zero))))))) (.cons (.succ (.succ (.succ (.succ (.succ (.succ (.succ (.zero)))))))) (.cons (.succ (.succ (.succ (.succ (.succ (.succ (.succ (.succ (.zero))))))))) (.cons (.succ (.succ (.succ (.succ (.succ (.succ (.succ (.succ (.succ (.zero)))))))))) (.cons (.succ (.succ (.succ (.succ (.succ (.succ (.succ (.succ (.succ (.succ (.zero))))))))))) (.cons (.succ (.succ (.succ (.succ (.succ (.succ (.succ (.succ (.succ (.succ (.succ (.zero)))))))))))) (.cons (.succ (.succ (.succ (.succ (.succ (.succ (.succ (.succ (.succ (.succ (.succ (.succ (.zero))))))))))))) .nil)))))))))))) (.cons (.cons (.succ (.zero)) (.cons (.succ (.succ (.zero))) (.cons (.succ (.succ (.succ (.zero)))) (.cons (.succ (.succ (.succ (.succ (.zero))))) (.cons (.succ (.succ (.succ (.succ (.succ (.succ (.zero))))))) (.cons (.zero) (.cons (.succ (.succ (.succ (.succ (.succ (.succ (.succ (.zero)))))))) (.cons (.succ (.succ (.succ (.succ (.succ (.succ (.succ (.succ (.zero))))))))) (.cons (.succ (.succ (.succ (.succ (.succ (.succ (.succ (.succ (.succ (.zero)))))))))) (.cons (.succ (.succ (.succ (.succ (.succ (.succ (.succ (.succ (.succ (.succ (.zero))))))))))) (.cons (.succ (.succ (.succ (.succ (.succ (.succ (.succ (.succ (.succ (.succ (.succ (.zero)))))))))))) (.cons (.succ (.succ (.succ (.succ (.succ (.succ (.succ (.succ (.succ (.succ (.succ (.succ (.zero))))))))))))) .nil)))))))))))) (.cons (.cons (.succ (.zero)) (.cons (.succ (.succ (.zero))) (.cons (.succ (.succ (.succ (.zero)))) (.cons (.succ (.succ (.succ (.succ (.zero))))) (.cons (.succ (.succ (.succ (.succ (.succ (.succ (.zero))))))) (.cons (.succ (.succ (.succ (.succ (.succ (.succ (.succ (.zero)))))))) (.cons (.zero) (.cons (.succ (.succ (.succ (.succ (.succ (.succ (.succ (.succ (.zero))))))))) (.cons (.succ (.succ (.succ (.succ (.succ (.succ (.succ (.succ (.succ (.zero)))))))))) (.cons (.succ (.succ (.succ (.succ (.succ (.succ (.succ (.succ (.succ (.succ (.zero))))))))))) (.cons (.succ (.succ (.succ (.succ (.succ (.succ (.succ (.succ (.succ (.succ (.succ (.zero)))))))))))) (.cons (.succ (.succ (.succ (.succ (.succ (.succ (.succ (.succ (.succ (.succ (.succ (.succ (.zero))))))))))))) .nil)))))))))))) (.cons (.cons (.succ (.zero)) (.cons (.succ (.succ (.zero))) (.cons (.succ (.succ (.succ (.zero)))) (.cons (.succ (.succ (.succ (.succ (.zero))))) (.cons (.succ (.succ (.succ (.succ (.succ (.succ (.zero))))))) (.cons (.succ (.succ (.succ (.succ (.succ (.succ (.succ (.zero)))))))) (.cons (.succ (.succ (.succ (.succ (.succ (.succ (.succ (.succ (.zero))))))))) (.cons (.zero) (.cons (.succ (.succ (.succ (.succ (.succ (.succ (.succ (.succ (.succ (.zero)))))))))) (.cons (.succ (.succ (.succ (.succ (.succ (.succ (.succ (.succ (.succ (.succ (.zero))))))))))) (.cons (.succ (.succ (.succ (.succ (.succ (.succ (.succ (.succ (.succ (.succ (.succ (.zero)))))))))))) (.cons (.succ (.succ (.succ (.succ (.succ (.succ (.succ (.succ (.succ (.succ (.succ (.succ (.zero))))))))))))) .nil)))))))))))) (.cons (.cons (.succ (.zero)) (.cons (.succ (.succ (.zero))) (.cons (.succ (.succ (.succ (.zero)))) (.cons (.succ (.succ (.succ (.succ (.zero))))) (.cons (.succ (.succ (.succ (.succ (.succ (.succ (.zero))))))) (.cons (.succ (.succ (.succ (.succ (.succ (.succ (.succ (.zero)))))))) (.cons (.succ (.succ (.succ (.succ (.succ (.succ (.succ (.succ (.zero))))))))) (.cons (.succ (.succ (.succ (.succ (.succ (.succ (.succ (.succ (.succ (.zero)))))))))) (.cons (.zero) (.cons (.succ (.succ (.succ (.succ (.succ (.succ (.succ (.succ (.succ (.succ (.zero))))))))))) (.cons (.succ (.succ (.succ (.succ (.succ (.succ (.succ (.succ (.succ (.succ (.succ (.zero)))))))))))) (.cons (.succ (.succ (.succ (.succ (.succ (.succ (.succ (.succ (.succ (.succ (.succ (.succ (.zero))))))))))))) .nil)))))))))))) (.cons (.cons (.succ (.zero)) (.cons (.succ (.succ (.zero))) (.cons (.succ (.succ (.succ (.zero)))) (.cons (.succ (.succ (.succ (.succ (.zero))))) (.cons (.succ (.succ (.succ (.succ (.succ (.succ (.zero))))))) (.cons (.succ (.succ (.succ (.succ (.succ (.succ (.succ (.zero)))))))) (.cons (.succ (.succ (.succ (.succ (.succ (.succ (.succ (.succ (.zero))))))))) (.cons (.succ (.succ (.succ (.succ (.succ (.succ (.succ (.succ (.succ (.zero)))))))))) (.cons (.succ (.succ (.succ (.succ (.succ (.succ (.succ (.succ (.succ (.succ (.zero))))))))))) (.cons (.zero) (.cons (.succ (.succ (.succ (.succ (.succ (.succ (.succ (.succ (.succ (.succ (.succ (.zero)))))))))))) (.cons (.succ (.succ (.succ (.succ (.succ (.succ (.succ (.succ (.succ (.succ (.succ (.succ (.zero))))))))))))) .nil)))))))))))) .nil)))))))))) (fun _ _ _ _ _ h => h) ?_
  repeat (first | go_big_quiet_step ((fail)) | quiet_step ((fail)))
  refine wpQuiet_nil ?_
  refine ⟨?_, ?_, ?_, ?_, ?_, ?_, ?_, ?_, ?_, Each.one ?_⟩
  all_goals (
    have hrow2 := hide (HR.out.alloc (Obj.cells #[.int .i64 t] 3))
    generalize w.drew = w1 at *
    go_wp2_with (at_builtin; go_must (refine wpList_append_own _ rfl (.tmp 4) (.tmp 14) 37 rfl w0.heap.size 3 i1 _ 1 8 Try.underlying37 hi1 iz1 is1 ib1 rfl (by decide) _ gr.length (gr.map fun (x : Nat) => encI (topOf s.nd x)) rfl hrow2.out ⟨w1.heap.size, 0, none⟩ 1 1 [.int .i64 t] rfl rfl ?cells ?ones ?c63 ?cby ?cbase ?_))
    case cells =>
      intro j u hj
      match j, hj with
      | 0, hj => simp at hj; subst hj; simp [Addr.add, go_sem]
      | j + 1, hj => simp at hj
    case ones => simp [Value.oneCell']
    case c63 => unfold maxLen; omega
    case cby => omega
    case cbase => have := HV.out.below.size; simp; omega
    intro v' w2 hown' hgrow _
    obtain ⟨A4, C4, rfl⟩ := own_slice hown'
    have hown2 := hown'
    rw [← HT.out] at hown2
    obtain ⟨f3, V3⟩ := HV.out.put E3.out HR.out _ hown2 hgrow
    have q4 := cell_heap (j := 0) f3 rfl
    have q4f : w2.frozen? ⟨bo, 0, none⟩ = false := frozen_heap f3
    have HV3 := hide V3
    clear V3 f3 hown' hown2 hgrow hrow2 n0 n1 n2 c2 ka k0 k0'
    go_wp2_with fail
    go_end0
    exact ⟨rfl, HV3.out⟩)
end Go.Proofs.Ytgfjdkkfgclhjaa.Bd
