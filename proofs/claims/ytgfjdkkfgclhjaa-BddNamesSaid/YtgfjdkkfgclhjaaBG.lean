/- ite, whole. -/
import Derived.Test.YtgfjdkkfgclhjaaBF
import Derived.Laws.Cover1
namespace Go.Proofs.Ytgfjdkkfgclhjaa.Bd
open Go.RowKit Go.Proofs.Ytgfjdkkfgclhjaa Go.Proofs.Ytgfjdkkfgclhjaa.Lx Go.Maps

theorem Den.head {S : Nat → Bool} {nd : List Nd} {i t : Nat} {F : Env → Bool} (hw : WF nd) (h : Den S nd i t F) : ∃ lo hi, nd[i]? = some (t, lo, hi) := by
  cases h with
  | zero => exact ⟨_, _, hw.e0⟩
  | one => exact ⟨_, _, hw.e1⟩
  | node h h2 hl hh hne h1 h3 hv hS dl dh => exact ⟨_, _, h⟩
theorem box4 (w : World) (a b c d : Value) (ta tb tc td : TypeId) : Below w.heap.size w ((((w.alloc (.cells #[a] ta)).alloc (.cells #[b] tb)).alloc (.cells #[c] tc)).alloc (.cells #[d] td)) :=
  ((((Below.refl _ w).alloc (Nat.le_refl _) _).alloc (by simp) _).alloc (by simp; omega) _).alloc (by simp; omega) _
theorem box5 (w : World) (a b c d e1 e2 e3 : Value) (ta tb tc td te : TypeId) (W : World) (hW : W = ((((w.alloc (.cells #[a] ta)).alloc (.cells #[b] tb)).alloc (.cells #[c] tc)).alloc (.cells #[d] td)).alloc (.cells #[e1, e2, e3] te)) :
    Below w.heap.size w W ∧ W.heap[w.heap.size]? = some (.cells #[a] ta (0, 0)) ∧ W.heap[w.heap.size + 1]? = some (.cells #[b] tb (0, 0)) ∧ W.heap[w.heap.size + 1 + 1]? = some (.cells #[c] tc (0, 0)) ∧ W.heap[w.heap.size + 1 + 1 + 1]? = some (.cells #[d] td (0, 0)) ∧ W.heap[w.heap.size + 4]? = some (.cells #[e1, e2, e3] te (0, 0)) ∧ W.heap.size = w.heap.size + 5 := by
  subst hW
  refine ⟨(box4 w a b c d ta tb tc td).alloc (by simp; omega) _, ?_, ?_, ?_, ?_, ?_, by simp⟩
  · exact heap_old (heap_old (heap_old (heap_old (heap_new _ _))))
  · have := heap_new (w.alloc (.cells #[a] ta)) (.cells #[b] tb)
    rw [show (w.alloc (.cells #[a] ta)).heap.size = w.heap.size + 1 by simp] at this
    exact heap_old (heap_old (heap_old this))
  · have := heap_new ((w.alloc (.cells #[a] ta)).alloc (.cells #[b] tb)) (.cells #[c] tc)
    rw [show ((w.alloc (.cells #[a] ta)).alloc (.cells #[b] tb)).heap.size = w.heap.size + 1 + 1 by simp] at this
    exact heap_old (heap_old this)
  · have := heap_new (((w.alloc (.cells #[a] ta)).alloc (.cells #[b] tb)).alloc (.cells #[c] tc)) (.cells #[d] td)
    rw [show (((w.alloc (.cells #[a] ta)).alloc (.cells #[b] tb)).alloc (.cells #[c] tc)).heap.size = w.heap.size + 1 + 1 + 1 by simp] at this
    exact heap_old this
  · have := heap_new ((((w.alloc (.cells #[a] ta)).alloc (.cells #[b] tb)).alloc (.cells #[c] tc)).alloc (.cells #[d] td)) (.cells #[e1, e2, e3] te)
    rw [show ((((w.alloc (.cells #[a] ta)).alloc (.cells #[b] tb)).alloc (.cells #[c] tc)).alloc (.cells #[d] td)).heap.size = w.heap.size + 4 by simp] at this
    exact this

theorem cut_append {nd ex : List Nd} {f v : Nat} {b : Bool} (h : f < nd.length) : cut (nd ++ ex) f v b = cut nd f v b := by
  unfold cut
  rw [List.getElem?_append_left h]
theorem OkIte.lift {nd ex : List Nd} {f g h r : Nat} (hf : f < nd.length) (hg : g < nd.length) (hh : h < nd.length) (ho : OkIte nd (nd ++ ex) f g h r) : OkIte (nd ++ ex) (nd ++ ex) f g h r := by
  intro S tf tg th F G H d1 d2 d3
  exact ho S tf tg th F G H (d1.shrink hf) (d2.shrink hg) (d3.shrink hh)
theorem Up.len {s s' : St} (h : Up s s') : s.nd.length ≤ s'.nd.length := by
  obtain ⟨ex, e⟩ := h.nd
  rw [e, List.length_append]; omega
theorem ite_mk {S : Nat → Bool} {k2 : Blk} {s s1 s2 : St} {f g h tf tg th v lo hi p : Nat} {F G H : Env → Bool} {w : World} (hW : WF s.nd) (d1 : Den S s.nd f tf F) (d2 : Den S s.nd g tg G) (d3 : Den S s.nd h th H) (hv : v = min tf (min tg th)) (hv2 : v < 256) (hS : S v = true)
    (U1 : Up s s1) (U2 : Up s1 s2) (o1 : OkIte s.nd s1.nd (cut s.nd f v false) (cut s.nd g v false) (cut s.nd h v false) lo) (o2 : OkIte s1.nd s2.nd (cut s1.nd f v true) (cut s1.nd g v true) (cut s1.nd h v true) hi) (hA : Ar w k2 s2) (hm : s2.m + 1 ≤ 1000000000) (hp : k2.p = p) :
    Calls Try.prog 41 #[.pointer (some ⟨p, 0, none⟩), .int .i32 v, .int .i32 lo, .int .i32 hi] w fun e w' => ∃ k' s' r, e = .returned (.int .i32 (r : Nat)) ∧ Ar w' k' s' ∧ Turn k2 k' w w' ∧ Up s2 s' ∧ s'.m ≤ s2.m + 1 ∧ OkIte s.nd s'.nd f g h r := by
  subst hp
  obtain ⟨ex1, e1⟩ := U1.nd
  obtain ⟨ex2, e2⟩ := U2.nd
  rw [e1, cut_append (d1.lt hW), cut_append (d2.lt hW), cut_append (d3.lt hW), ← e1] at o2
  obtain ⟨a1, ha1, q1⟩ := cut_den hW d1 (v := v) (by omega) hv2 false
  obtain ⟨a2, ha2, q2⟩ := cut_den hW d2 (v := v) (by omega) hv2 false
  obtain ⟨a3, ha3, q3⟩ := cut_den hW d3 (v := v) (by omega) hv2 false
  obtain ⟨b1, hb1, p1⟩ := cut_den hW d1 (v := v) (by omega) hv2 true
  obtain ⟨b2, hb2, p2⟩ := cut_den hW d2 (v := v) (by omega) hv2 true
  obtain ⟨b3, hb3, p3⟩ := cut_den hW d3 (v := v) (by omega) hv2 true
  obtain ⟨tl, h1, dl⟩ := o1 S _ _ _ _ _ _ q1 q2 q3
  obtain ⟨tt, h2, dh⟩ := o2 S _ _ _ _ _ _ (p1.up U1) (p2.up U1) (p3.up U1)
  refine (mk_any k2 s2 v lo hi w hA hm S tl tt _ _ (dl.up U2) dh (by omega) (by omega) hv2 hS).mono ?_
  rintro e w' ⟨k', s', r, he, hA', hT, hU, hr, ho⟩
  exact ⟨k', s', r, he, hA', hT, hU, hr, ite_halves hW d1 d2 d3 hv hv2 ⟨ex1, e1⟩ ⟨ex2, e2⟩ o1 o2 ho⟩

theorem Inv.memo {s : St} {fb ft : Nd → Option Int} (I : Inv s fb ft) {f g h r : Nat} (hf : f < s.nd.length) (hg : g < s.nd.length) (hh : h < s.nd.length) (hr : r < s.nd.length) (ho : OkIte s.nd s.nd f g h r) :
    Inv { s with m := s.m + 1 } fb (fun x => if x = (f, g, h) then some (r : Int) else ft x) := by
  refine ⟨I.by_, fun a b c i hi => ?_, I.wf, by have := I.nm; simp only; omega, I.gi⟩
  try simp only at hi
  split at hi
  · rename_i e
    simp only [Prod.mk.injEq] at e
    obtain ⟨rfl, rfl, rfl⟩ := e
    cases hi
    exact ⟨r, rfl, hr, hf, hg, hh, ho⟩
  · exact I.it a b c i hi

set_option maxHeartbeats 8000000 in
set_option maxRecDepth 100000 in
theorem ite_step (n : Nat) (hI : IteAt n) : IteAt (n + 1) := by
  intro S k s f g h tf tg th F G H w hn hA d1 d2 d3 hm
  have hW : WF s.nd := by obtain ⟨_, _, _, I⟩ := hA; exact I.wf
  have hpow : 2 ≤ 2 ^ (nS S (min tf (min tg th)) + 1) := by have := Nat.one_le_two_pow (n := nS S (min tf (min tg th))); rw [Nat.pow_succ]; omega
  have hbl := box4 w (.pointer (some ⟨k.p, 0, none⟩)) (.int .i32 f) (.int .i32 g) (.int .i32 h) 24 21 21 21
  obtain ⟨v, hv⟩ : ∃ v, v = min tf (min tg th) := ⟨_, rfl⟩
  rw [← hv] at hn hm hpow ⊢
  -- what is answered at once
  have easy : ∀ r, OkIte s.nd s.nd f g h r → ∀ w', Below w.heap.size w w' → NodeOut k s w (2 ^ (nS S v + 1)) (fun nd' r => OkIte s.nd nd' f g h r) (.returned (.int .i32 (r : Nat))) w' :=
    fun r hr w' hb => ⟨k, s, r, rfl, hA.below hb, Turn.below hb, Up.refl _, by omega, hr⟩
  have HE := hide easy
  have HBL := hide hbl
  clear easy
  cases b1 : ((f : Int) == 1)
  case true =>
    have HO := hide (HE.out g (by have : f = 1 := by have := beq_t b1; omega
                                  subst this; exact ite_one hW) _ hbl)
    clear hA d1 d2 d3 hI hW hbl HE HBL
    go_enter Try.func40, Try.ntmps40
    go_wp2_with fail
    go_ret
    exact HO.out
  case false =>
  cases b2 : ((g : Int) == h)
  case true =>
    have HO := hide (HE.out g (by have : g = h := by have := beq_t b2; omega
                                  subst this; exact ite_same) _ hbl)
    clear hA d1 d2 d3 hI hW hbl HE HBL
    go_enter Try.func40, Try.ntmps40
    go_wp2_with fail
    go_ret
    exact HO.out
  case false =>
  cases b3 : ((f : Int) == 0)
  case true =>
    have HO := hide (HE.out h (by have : f = 0 := by have := beq_t b3; omega
                                  subst this; exact ite_zero) _ hbl)
    clear hA d1 d2 d3 hI hW hbl HE HBL
    go_enter Try.func40, Try.ntmps40
    go_wp2_with fail
    go_ret
    exact HO.out
  case false =>
  have HA := hide hA
  obtain ⟨fb, ft, H, I⟩ := hA
  have HF : Hid (∀ i, w.heap.size ≤ i → ¬ fp k i) := fun i hi hf => by have := H.lt i hf; omega
  have hv2 : v < 256 := by
    have := d1.top
    have b1' := beq_f b1
    have b3' := beq_f b3
    omega
  have hS : S v = true := by
    have : v = tf ∨ v = tg ∨ v = th := by omega
    rcases this with e | e | e
    · rw [e]; exact d1.first (by omega)
    · rw [e]; exact d2.first (by omega)
    · rw [e]; exact d3.first (by omega)
  have hq : 2 ^ (nS S v + 1) = 2 * 2 ^ (nS S (v + 1) + 1) := by
    rw [nS_step S hv2, hS, Nat.pow_succ, Nat.pow_succ, if_pos rfl, Nat.add_comm 1, Nat.pow_succ]
    omega
  have hq2 : 2 ≤ 2 ^ (nS S (v + 1) + 1) := by have := Nat.one_le_two_pow (n := nS S (v + 1)); rw [Nat.pow_succ]; omega
  have l1 := d1.lt hW
  have l2 := d2.lt hW
  have l3 := d3.lt hW
  have hnm := I.nm
  have sm : small (f, g, h) := ⟨by simp; omega, by simp; omega, by simp; omega⟩
  obtain ⟨kl, hkl⟩ := keyT (f, g, h) sm
  cases b4 : ((g : Int) == 1)
  · go_enter Try.func40, Try.ntmps40
    go_wp2_with fail
    generalize hWd : (((((w.alloc (Obj.cells #[Value.pointer (some { block := k.p, off := 0 })] 24)).alloc (Obj.cells #[Value.int IntKind.i32 f] 21)).alloc (Obj.cells #[Value.int IntKind.i32 g] 21)).alloc (Obj.cells #[Value.int IntKind.i32 h] 21)).alloc (Obj.cells #[Value.int IntKind.i32 f, Value.int IntKind.i32 g, Value.int IntKind.i32 h] 93)) = W
    obtain ⟨hbw, z0, z1, z2, z3, z4, hsz⟩ := box5 w _ _ _ _ _ _ _ _ _ _ _ _ W hWd.symm
    have H1 := H.below hbw
    have y0 : ∀ x, (lat W x).cell? ⟨w.heap.size, 0, none⟩ = some (.pointer (some ⟨k.p, 0, none⟩)) := lat_cell (cell_heap z0 rfl)
    have y4 : ∀ x, (lat W x).cell? ⟨w.heap.size + 4, 0, none⟩ = some (.int .i32 f) := lat_cell (cell_heap z4 rfl)
    have y5 : ∀ x, (lat W x).cell? ⟨w.heap.size + 4, 1, none⟩ = some (.int .i32 g) := lat_cell (cell_heap z4 rfl)
    have y6 : ∀ x, (lat W x).cell? ⟨w.heap.size + 4, 2, none⟩ = some (.int .i32 h) := lat_cell (cell_heap z4 rfl)
    have y7 := lat_cell H1.c4
    have lk : ∀ x, (Instr.lookup 61 (.map (some k.it)) (.agg #[.int .i32 f, .int .i32 g, .int .i32 h]) true).run Try.prog (lat W x) = .ok (.tuple #[.int .i32 ((ft (f, g, h)).getD 0), .bool (ft (f, g, h)).isSome]) (lat W x) :=
      fun x => ((H1.below (lat_below W x)).it).look keyedT Try.underlying61 Try.underlying21 (zero3 _) hkl
    have HBW := hide hbw
    have HZ0 := hide z0
    have HZ1 := hide z1
    have HZ2 := hide z2
    have HZ3 := hide z3
    have HZ4 := hide z4
    have HH1 := hide H1
    have HI := hide I
    clear H H1 I z0 z1 z2 z3 z4 hbw hbl hWd HBL
    cases hf : ft (f, g, h) with
    | some c =>
      obtain ⟨r, rfl, hr0, _, _, _, hr⟩ := HI.out.it _ _ _ _ hf
      rw [hf] at lk
      simp only [Option.getD_some, Option.isSome_some] at lk
      refine wp_region_lat (by kernel_rfl) (by kernel_rfl) ?_
      repeat (first | go_big_quiet_step ((fail)) | quiet_step ((fail)))
      refine wpQuiet_nil ?_
      intro _ hlat
      obtain ⟨wq, rfl⟩ := hlat
      go_wp2_with fail
      go_ret
      exact HE.out r hr _ (below_wide HBW.out (lat_below W wq))
    | none =>
      rw [hf] at lk
      simp only [Option.getD_none, Option.isSome_none] at lk
      refine wp_region_lat (by kernel_rfl) (by kernel_rfl) ?_
      repeat (first | go_big_quiet_step ((fail)) | quiet_step ((fail)))
      refine wpQuiet_nil ?_
      intro _ hlat
      obtain ⟨wq, rfl⟩ := hlat
      have hb2 := below_wide HBW.out (lat_below W wq)
      have z0 := heapB (lat_below W wq) HZ0.out
      have z1 := heapB (lat_below W wq) HZ1.out
      have z2 := heapB (lat_below W wq) HZ2.out
      have z3 := heapB (lat_below W wq) HZ3.out
      have z4 := heapB (lat_below W wq) HZ4.out
      have hs2 : w.heap.size + 5 ≤ (lat W wq).heap.size := by have := (lat_below W wq).size; omega
      have H2 := HH1.out.below (lat_below W wq)
      clear y0 y4 y5 y6 y7 lk HZ0 HZ1 HZ2 HZ3 HZ4 HH1 HBW
      generalize lat W wq = w2 at *
      obtain ⟨_, _, nf⟩ := d1.head hW
      obtain ⟨_, _, ng⟩ := d2.head hW
      obtain ⟨_, _, nh⟩ := d3.head hW
      have r1 : (f : Int) < s.nd.length := by omega
      have r2 : (g : Int) < s.nd.length := by omega
      have r3 : (h : Int) < s.nd.length := by omega
      have HS : Hid (∀ w', Below w2.heap.size w2 w' → w'.cell? ⟨w.heap.size, 0, none⟩ = some (.pointer (some ⟨k.p, 0, none⟩)) ∧ w'.cell? ⟨w.heap.size + 1, 0, none⟩ = some (.int .i32 f) ∧ w'.cell? ⟨w.heap.size + 1 + 1, 0, none⟩ = some (.int .i32 g) ∧ w'.cell? ⟨w.heap.size + 1 + 1 + 1, 0, none⟩ = some (.int .i32 h) ∧ w'.cell? ⟨k.p, 2, none⟩ = some (.slice (some ⟨k.g, 0, none⟩) s.nd.length k.c) ∧ w'.cell? ⟨k.g, f * 3, none⟩ = some (.int .i32 tf) ∧ w'.cell? ⟨k.g, g * 3, none⟩ = some (.int .i32 tg) ∧ w'.cell? ⟨k.g, h * 3, none⟩ = some (.int .i32 th)) :=
        fun w' hb => ⟨cell_heap (heapB hb z0) rfl, cell_heap (heapB hb z1) rfl, cell_heap (heapB hb z2) rfl, cell_heap (heapB hb z3) rfl, (H2.below hb).c2, ((H2.below hb).node nf).1, ((H2.below hb).node ng).1, ((H2.below hb).node nh).1⟩
      have hmin : ∀ (w' : World) ts ty, (Builtin.min_ ts ty #[.int .i32 tf, .int .i32 tg, .int .i32 th]).run Try.prog w' = .ok (.int .i32 (v : Nat)) w' := by
        intro w' ts ty
        rw [run_min_int3, hv]
        congr 2
        split <;> split <;> omega
      have HV := hide hv
      clear hv
      go_wp2_with fail
      go_region_held3 (fun w' => w'.cell? ⟨w.heap.size, 0, none⟩ = some (.pointer (some ⟨k.p, 0, none⟩)) ∧ w'.cell? ⟨w.heap.size + 1, 0, none⟩ = some (.int .i32 f) ∧ w'.cell? ⟨w.heap.size + 1 + 1, 0, none⟩ = some (.int .i32 g) ∧ w'.cell? ⟨w.heap.size + 1 + 1 + 1, 0, none⟩ = some (.int .i32 h) ∧ w'.cell? ⟨k.p, 2, none⟩ = some (.slice (some ⟨k.g, 0, none⟩) s.nd.length k.c) ∧ w'.cell? ⟨k.g, f * 3, none⟩ = some (.int .i32 tf) ∧ w'.cell? ⟨k.g, g * 3, none⟩ = some (.int .i32 tg) ∧ w'.cell? ⟨k.g, h * 3, none⟩ = some (.int .i32 th))
        (first | exact HS.out _ (Below.drew (Below.refl _ w2)) | exact HS.out _ (Below.alloc (Below.drew (Below.refl _ w2)) (Nat.le_refl _) _) | exact HS.out _ (Below.drew (Below.alloc (Below.refl _ w2) (Nat.le_refl _) _)) | exact HS.out _ (Below.setCell (Below.alloc (Below.drew (Below.refl _ w2)) (Nat.le_refl _) _) (Nat.le_refl _) _) | exact HS.out _ (Below.setCell (Below.drew (Below.alloc (Below.refl _ w2) (Nat.le_refl _) _)) (Nat.le_refl _) _))
        (fail)
      all_goals (
        have hb3 : Below w2.heap.size w2 (w2.alloc (Obj.cells #[.int .i32 v] 21)).drew := ((Below.refl _ w2).alloc (Nat.le_refl _) _).drew
        have HB3 := hide (below_wide hb2 hb3)
        have x0 := heapB hb3 z0
        have x1 := heapB hb3 z1
        have x2 := heapB hb3 z2
        have x3 := heapB hb3 z3
        have x4 := heapB hb3 z4
        have x5 : (w2.alloc (Obj.cells #[.int .i32 v] 21)).drew.heap[w2.heap.size]? = some (.cells #[.int .i32 v] 21 (0, 0)) := heap_new _ _
        generalize (w2.alloc (Obj.cells #[.int .i32 v] 21)).drew = w3 at *
        have HA3 := hide (HA.out.below HB3.out)
        clear hb3 HS hmin H2 nf ng nh r1 r2 r3 z0 z1 z2 z3 z4 hb2
        have c0 : w3.cell? ⟨w.heap.size, 0, none⟩ = some (.pointer (some ⟨k.p, 0, none⟩)) := cell_heap x0 rfl
        have c1 : w3.cell? ⟨w.heap.size + 1, 0, none⟩ = some (.int .i32 f) := cell_heap x1 rfl
        have c2 : w3.cell? ⟨w.heap.size + 1 + 1, 0, none⟩ = some (.int .i32 g) := cell_heap x2 rfl
        have c3 : w3.cell? ⟨w.heap.size + 1 + 1 + 1, 0, none⟩ = some (.int .i32 h) := cell_heap x3 rfl
        have c5 : w3.cell? ⟨w2.heap.size, 0, none⟩ = some (.int .i32 v) := cell_heap x5 rfl
        have HP1 := hide (part_any n hI S k s f g h tf tg th v F G H false w3 _ _ _ _ _ HA3.out d1 d2 d3 HV.out hv2 (by omega) (by omega) c0 c1 c5 c2 c3 (HF.out _ (by omega)) (HF.out _ (by omega)) (HF.out _ (by omega)) (HF.out _ (by omega)) (HF.out _ (by omega)))
        go_wp2_with fail
        refine HP1.out.mono ?_
        intro e w4 hh
        unfold NodeOut at hh
        obtain ⟨k1, s1, lo, he, hA4, T4, U4, m4, o4⟩ := hh
        subst he
        have hlt0 := lt_of_cell c0
        have hlt1 := lt_of_cell c1
        have hlt2 := lt_of_cell c2
        have hlt3 := lt_of_cell c3
        have hlt4 := lt_heap x4
        have hlt5 := lt_of_cell c5
        simp only at hlt0 hlt1 hlt2 hlt3 hlt5
        have f0 := HF.out w.heap.size (by omega)
        have f1 := HF.out (w.heap.size + 1) (by omega)
        have f2 := HF.out (w.heap.size + 1 + 1) (by omega)
        have f3 := HF.out (w.heap.size + 1 + 1 + 1) (by omega)
        have f4 := HF.out (w.heap.size + 4) (by omega)
        have f5 := HF.out w2.heap.size (by omega)
        have g0 := T4.fpn hlt0 f0
        have g1 := T4.fpn hlt1 f1
        have g2 := T4.fpn hlt2 f2
        have g3 := T4.fpn hlt3 f3
        have g4 := T4.fpn hlt4 f4
        have g5 := T4.fpn hlt5 f5
        have e0 : w4.drew.cell? ⟨w.heap.size, 0, none⟩ = some (.pointer (some ⟨k1.p, 0, none⟩)) := by rw [T4.p]; exact T4.cell c0 f0
        have e1 : w4.drew.cell? ⟨w.heap.size + 1, 0, none⟩ = some (.int .i32 f) := T4.cell c1 f1
        have e2 : w4.drew.cell? ⟨w.heap.size + 1 + 1, 0, none⟩ = some (.int .i32 g) := T4.cell c2 f2
        have e3 : w4.drew.cell? ⟨w.heap.size + 1 + 1 + 1, 0, none⟩ = some (.int .i32 h) := T4.cell c3 f3
        have e5 : w4.drew.cell? ⟨w2.heap.size, 0, none⟩ = some (.int .i32 v) := T4.cell c5 f5
        have hA4d := hA4.below ((Below.refl _ w4).drew)
        have HP2 := hide (part_any n hI S k1 s1 f g h tf tg th v F G H true w4.drew _ _ _ _ _ hA4d (d1.up U4) (d2.up U4) (d3.up U4) HV.out hv2 (by omega) (by omega) e0 e1 e5 e2 e3 g0 g1 g5 g2 g3)
        have x4' := hide (T4.heap x4 f4)
        have HT4 := hide (T4.trans (Turn.below (k := k1) ((Below.refl _ w4).drew)))
        have HSZ := hide T4.size
        have HO4 := hide o4
        have HU4 := hide U4
        have hk4 : w4.drew.cell? ⟨w.heap.size, 0, none⟩ = some (.pointer (some ⟨k.p, 0, none⟩)) ∧ w4.drew.cell? ⟨w2.heap.size, 0, none⟩ = some (.int .i32 v) := ⟨T4.cell c0 f0, T4.cell c5 f5⟩
        clear hA4 hA4d T4 U4 o4 HP1 c0 c1 c2 c3 c5 e0 e1 e2 e3 e5 x0 x1 x2 x3 x4 x5 HA3
        go_wp2_with fail
        go_region_held3 (fun w' => w'.cell? ⟨w.heap.size, 0, none⟩ = some (.pointer (some ⟨k.p, 0, none⟩)) ∧ w'.cell? ⟨w2.heap.size, 0, none⟩ = some (.int .i32 v))
          (first | exact hk4 | exact hk5 | exact hk6)
          (first
            | (go_at_call 57; with_reducible refine HP2.out.mono ?_; intro e w5 hh; unfold NodeOut at hh; obtain ⟨k2, s2, hi, he, hA5, T5, U5, m5, o5⟩ := hh; subst he; have hk5 := And.intro (T5.cell hk4.1 g0) (T5.cell hk4.2 g5); have HA5 := hide hA5; have HT5 := hide T5; have HU5 := hide U5; have HO5 := hide o5; clear hA5 T5 U5 o5)
            | (go_at_call 41; with_reducible refine (ite_mk hW d1 d2 d3 HV.out hv2 hS HU4.out HU5.out HO4.out HO5.out HA5.out (by omega) (HT5.out.p.trans HT4.out.p)).mono ?_; rintro e w6 ⟨k3, s3, r, he, hA6, T6, U6, m6, o6⟩; subst he; have hk6 := And.intro (T6.cell hk5.1 (HT5.out.fpn (lt_of_cell hk4.1) g0)) (T6.cell hk5.2 (HT5.out.fpn (lt_of_cell hk4.2) g5)); have HA6 := hide hA6; have HT6 := hide T6; have HU6 := hide U6; have HO6 := hide o6; clear hA6 T6 U6 o6))
        all_goals (
          go_wp2_with fail
          have x6 := hide (HT6.out.heap (HT5.out.heap x4'.out g4) (HT5.out.fpn (lt_heap x4'.out) g4))
          obtain ⟨fb6, ft6, H6, I6⟩ := HA6.out
          have hp3 : k3.p = k.p := HT6.out.p.trans (HT5.out.p.trans HT4.out.p)
          have u0 : w6.drew.cell? ⟨w.heap.size, 0, none⟩ = some (.pointer (some ⟨k.p, 0, none⟩)) := hk6.1
          have u1 : w6.drew.cell? ⟨k.p, 4, none⟩ = some (.map (some k3.it)) := by rw [← hp3]; exact H6.drew.c4
          have u2 : w6.drew.cell? ⟨w.heap.size + 4, 0, none⟩ = some (.int .i32 f) := cell_heap x6.out rfl
          have u3 : w6.drew.cell? ⟨w.heap.size + 4, 1, none⟩ = some (.int .i32 g) := cell_heap x6.out rfl
          have u4 : w6.drew.cell? ⟨w.heap.size + 4, 2, none⟩ = some (.int .i32 h) := cell_heap x6.out rfl
          have u5 : w6.drew.cell? ⟨w.heap.size + 1 + 1 + 1 + 1, 0, none⟩ = some (.int .i32 f) := cell_heap x6.out rfl
          have u6 : w6.drew.cell? ⟨w.heap.size + 1 + 1 + 1 + 1, 1, none⟩ = some (.int .i32 g) := cell_heap x6.out rfl
          have u7 : w6.drew.cell? ⟨w.heap.size + 1 + 1 + 1 + 1, 2, none⟩ = some (.int .i32 h) := cell_heap x6.out rfl
          have hU := (HU4.out.trans HU5.out).trans HU6.out
          obtain ⟨ex, hex⟩ := hU.nd
          have hrl : r < s3.nd.length := by
            obtain ⟨t, _, d⟩ := HO6.out S _ _ _ _ _ _ d1 d2 d3
            exact d.lt I6.wf
          have hl3 := hU.len
          have hnm3 := I6.nm
          have hI8 := hide (I6.memo (f := f) (g := g) (h := h) (by omega) (by omega) (by omega) hrl (by rw [hex]; exact OkIte.lift l1 l2 l3 (by rw [← hex]; exact HO6.out)))
          have HH6 := hide H6.drew
          have HTT := hide ((((Turn.below (k := k) HB3.out).trans HT4.out).trans HT5.out).trans (HT6.out.trans (Turn.below ((Below.refl _ w6).drew))))
          have HUU := hide hU
          clear H6 I6 hex hU
          have v1 : s3.m < maxLen := by unfold maxLen; omega
          have v2 : (Lit.int .i32 r).wf = true := wf3 (by omega) (by omega)
          go_still_tail 6, (by kernel_rfl)
          change wpList _ _ _ _ _ w6.drew
          generalize w6.drew = w7 at *
          go_wp2_with (at_mapUpdate; go_must (refine wpList_put rfl (.tmp 89) (.tmp 90) (.tmp 91) rfl HH6.out.it keyedT Try.underlying61 Try.underlying21 v1 encN_inj rfl (f, g, h) kl rfl hkl r rfl v2 ?_))
          intro w8 hmi hmt
          obtain ⟨H8, T8⟩ := HH6.out.itPut hmi hmt
          have HX := hide (show NodeOut k s w (2 ^ (nS S v + 1)) (fun nd' r => OkIte s.nd nd' f g h r) (.returned (.int .i32 (r : Nat))) w8 from
            ⟨k3, _, r, rfl, ⟨_, _, H8, hI8.out⟩, HTT.out.trans T8, ⟨HUU.out.vs, HUU.out.ms, HUU.out.gi, HUU.out.gn, HUU.out.he, HUU.out.hn, HUU.out.nd, Nat.le_succ_of_le HUU.out.m⟩, by simp only; omega, HO6.out⟩)
          clear hmi hmt H8 T8
          go_wp2_with fail
          go_ret
          exact HX.out))
  · cases b5 : ((h : Int) == 0)
    case true =>
      have HO := hide (HE.out f (by
        have e1 : g = 1 := by have := beq_t b4; omega
        have e2 : h = 0 := by have := beq_t b5; omega
        subst e1 e2
        exact ite_self) _ hbl)
      clear HA d1 d2 d3 hI hW hbl HE HBL H I
      go_enter Try.func40, Try.ntmps40
      go_wp2_with fail
      go_ret
      exact HO.out
    case false =>
    go_enter Try.func40, Try.ntmps40
    go_wp2_with fail
    generalize hWd : (((((w.alloc (Obj.cells #[Value.pointer (some { block := k.p, off := 0 })] 24)).alloc (Obj.cells #[Value.int IntKind.i32 f] 21)).alloc (Obj.cells #[Value.int IntKind.i32 g] 21)).alloc (Obj.cells #[Value.int IntKind.i32 h] 21)).alloc (Obj.cells #[Value.int IntKind.i32 f, Value.int IntKind.i32 g, Value.int IntKind.i32 h] 93)) = W
    obtain ⟨hbw, z0, z1, z2, z3, z4, hsz⟩ := box5 w _ _ _ _ _ _ _ _ _ _ _ _ W hWd.symm
    have H1 := H.below hbw
    have y0 : ∀ x, (lat W x).cell? ⟨w.heap.size, 0, none⟩ = some (.pointer (some ⟨k.p, 0, none⟩)) := lat_cell (cell_heap z0 rfl)
    have y4 : ∀ x, (lat W x).cell? ⟨w.heap.size + 4, 0, none⟩ = some (.int .i32 f) := lat_cell (cell_heap z4 rfl)
    have y5 : ∀ x, (lat W x).cell? ⟨w.heap.size + 4, 1, none⟩ = some (.int .i32 g) := lat_cell (cell_heap z4 rfl)
    have y6 : ∀ x, (lat W x).cell? ⟨w.heap.size + 4, 2, none⟩ = some (.int .i32 h) := lat_cell (cell_heap z4 rfl)
    have y7 := lat_cell H1.c4
    have lk : ∀ x, (Instr.lookup 61 (.map (some k.it)) (.agg #[.int .i32 f, .int .i32 g, .int .i32 h]) true).run Try.prog (lat W x) = .ok (.tuple #[.int .i32 ((ft (f, g, h)).getD 0), .bool (ft (f, g, h)).isSome]) (lat W x) :=
      fun x => ((H1.below (lat_below W x)).it).look keyedT Try.underlying61 Try.underlying21 (zero3 _) hkl
    have HBW := hide hbw
    have HZ0 := hide z0
    have HZ1 := hide z1
    have HZ2 := hide z2
    have HZ3 := hide z3
    have HZ4 := hide z4
    have HH1 := hide H1
    have HI := hide I
    clear H H1 I z0 z1 z2 z3 z4 hbw hbl hWd HBL
    cases hf : ft (f, g, h) with
    | some c =>
      obtain ⟨r, rfl, hr0, _, _, _, hr⟩ := HI.out.it _ _ _ _ hf
      rw [hf] at lk
      simp only [Option.getD_some, Option.isSome_some] at lk
      refine wp_region_lat (by kernel_rfl) (by kernel_rfl) ?_
      repeat (first | go_big_quiet_step ((fail)) | quiet_step ((fail)))
      refine wpQuiet_nil ?_
      intro _ hlat
      obtain ⟨wq, rfl⟩ := hlat
      go_wp2_with fail
      go_ret
      exact HE.out r hr _ (below_wide HBW.out (lat_below W wq))
    | none =>
      rw [hf] at lk
      simp only [Option.getD_none, Option.isSome_none] at lk
      refine wp_region_lat (by kernel_rfl) (by kernel_rfl) ?_
      repeat (first | go_big_quiet_step ((fail)) | quiet_step ((fail)))
      refine wpQuiet_nil ?_
      intro _ hlat
      obtain ⟨wq, rfl⟩ := hlat
      have hb2 := below_wide HBW.out (lat_below W wq)
      have z0 := heapB (lat_below W wq) HZ0.out
      have z1 := heapB (lat_below W wq) HZ1.out
      have z2 := heapB (lat_below W wq) HZ2.out
      have z3 := heapB (lat_below W wq) HZ3.out
      have z4 := heapB (lat_below W wq) HZ4.out
      have hs2 : w.heap.size + 5 ≤ (lat W wq).heap.size := by have := (lat_below W wq).size; omega
      have H2 := HH1.out.below (lat_below W wq)
      clear y0 y4 y5 y6 y7 lk HZ0 HZ1 HZ2 HZ3 HZ4 HH1 HBW
      generalize lat W wq = w2 at *
      obtain ⟨_, _, nf⟩ := d1.head hW
      obtain ⟨_, _, ng⟩ := d2.head hW
      obtain ⟨_, _, nh⟩ := d3.head hW
      have r1 : (f : Int) < s.nd.length := by omega
      have r2 : (g : Int) < s.nd.length := by omega
      have r3 : (h : Int) < s.nd.length := by omega
      have HS : Hid (∀ w', Below w2.heap.size w2 w' → w'.cell? ⟨w.heap.size, 0, none⟩ = some (.pointer (some ⟨k.p, 0, none⟩)) ∧ w'.cell? ⟨w.heap.size + 1, 0, none⟩ = some (.int .i32 f) ∧ w'.cell? ⟨w.heap.size + 1 + 1, 0, none⟩ = some (.int .i32 g) ∧ w'.cell? ⟨w.heap.size + 1 + 1 + 1, 0, none⟩ = some (.int .i32 h) ∧ w'.cell? ⟨k.p, 2, none⟩ = some (.slice (some ⟨k.g, 0, none⟩) s.nd.length k.c) ∧ w'.cell? ⟨k.g, f * 3, none⟩ = some (.int .i32 tf) ∧ w'.cell? ⟨k.g, g * 3, none⟩ = some (.int .i32 tg) ∧ w'.cell? ⟨k.g, h * 3, none⟩ = some (.int .i32 th)) :=
        fun w' hb => ⟨cell_heap (heapB hb z0) rfl, cell_heap (heapB hb z1) rfl, cell_heap (heapB hb z2) rfl, cell_heap (heapB hb z3) rfl, (H2.below hb).c2, ((H2.below hb).node nf).1, ((H2.below hb).node ng).1, ((H2.below hb).node nh).1⟩
      have hmin : ∀ (w' : World) ts ty, (Builtin.min_ ts ty #[.int .i32 tf, .int .i32 tg, .int .i32 th]).run Try.prog w' = .ok (.int .i32 (v : Nat)) w' := by
        intro w' ts ty
        rw [run_min_int3, hv]
        congr 2
        split <;> split <;> omega
      have HV := hide hv
      clear hv
      go_wp2_with fail
      go_region_held3 (fun w' => w'.cell? ⟨w.heap.size, 0, none⟩ = some (.pointer (some ⟨k.p, 0, none⟩)) ∧ w'.cell? ⟨w.heap.size + 1, 0, none⟩ = some (.int .i32 f) ∧ w'.cell? ⟨w.heap.size + 1 + 1, 0, none⟩ = some (.int .i32 g) ∧ w'.cell? ⟨w.heap.size + 1 + 1 + 1, 0, none⟩ = some (.int .i32 h) ∧ w'.cell? ⟨k.p, 2, none⟩ = some (.slice (some ⟨k.g, 0, none⟩) s.nd.length k.c) ∧ w'.cell? ⟨k.g, f * 3, none⟩ = some (.int .i32 tf) ∧ w'.cell? ⟨k.g, g * 3, none⟩ = some (.int .i32 tg) ∧ w'.cell? ⟨k.g, h * 3, none⟩ = some (.int .i32 th))
        (first | exact HS.out _ (Below.drew (Below.refl _ w2)) | exact HS.out _ (Below.alloc (Below.drew (Below.refl _ w2)) (Nat.le_refl _) _) | exact HS.out _ (Below.drew (Below.alloc (Below.refl _ w2) (Nat.le_refl _) _)) | exact HS.out _ (Below.setCell (Below.alloc (Below.drew (Below.refl _ w2)) (Nat.le_refl _) _) (Nat.le_refl _) _) | exact HS.out _ (Below.setCell (Below.drew (Below.alloc (Below.refl _ w2) (Nat.le_refl _) _)) (Nat.le_refl _) _))
        (fail)
      all_goals (
        have hb3 : Below w2.heap.size w2 (w2.alloc (Obj.cells #[.int .i32 v] 21)).drew := ((Below.refl _ w2).alloc (Nat.le_refl _) _).drew
        have HB3 := hide (below_wide hb2 hb3)
        have x0 := heapB hb3 z0
        have x1 := heapB hb3 z1
        have x2 := heapB hb3 z2
        have x3 := heapB hb3 z3
        have x4 := heapB hb3 z4
        have x5 : (w2.alloc (Obj.cells #[.int .i32 v] 21)).drew.heap[w2.heap.size]? = some (.cells #[.int .i32 v] 21 (0, 0)) := heap_new _ _
        generalize (w2.alloc (Obj.cells #[.int .i32 v] 21)).drew = w3 at *
        have HA3 := hide (HA.out.below HB3.out)
        clear hb3 HS hmin H2 nf ng nh r1 r2 r3 z0 z1 z2 z3 z4 hb2
        have c0 : w3.cell? ⟨w.heap.size, 0, none⟩ = some (.pointer (some ⟨k.p, 0, none⟩)) := cell_heap x0 rfl
        have c1 : w3.cell? ⟨w.heap.size + 1, 0, none⟩ = some (.int .i32 f) := cell_heap x1 rfl
        have c2 : w3.cell? ⟨w.heap.size + 1 + 1, 0, none⟩ = some (.int .i32 g) := cell_heap x2 rfl
        have c3 : w3.cell? ⟨w.heap.size + 1 + 1 + 1, 0, none⟩ = some (.int .i32 h) := cell_heap x3 rfl
        have c5 : w3.cell? ⟨w2.heap.size, 0, none⟩ = some (.int .i32 v) := cell_heap x5 rfl
        have HP1 := hide (part_any n hI S k s f g h tf tg th v F G H false w3 _ _ _ _ _ HA3.out d1 d2 d3 HV.out hv2 (by omega) (by omega) c0 c1 c5 c2 c3 (HF.out _ (by omega)) (HF.out _ (by omega)) (HF.out _ (by omega)) (HF.out _ (by omega)) (HF.out _ (by omega)))
        go_wp2_with fail
        refine HP1.out.mono ?_
        intro e w4 hh
        unfold NodeOut at hh
        obtain ⟨k1, s1, lo, he, hA4, T4, U4, m4, o4⟩ := hh
        subst he
        have hlt0 := lt_of_cell c0
        have hlt1 := lt_of_cell c1
        have hlt2 := lt_of_cell c2
        have hlt3 := lt_of_cell c3
        have hlt4 := lt_heap x4
        have hlt5 := lt_of_cell c5
        simp only at hlt0 hlt1 hlt2 hlt3 hlt5
        have f0 := HF.out w.heap.size (by omega)
        have f1 := HF.out (w.heap.size + 1) (by omega)
        have f2 := HF.out (w.heap.size + 1 + 1) (by omega)
        have f3 := HF.out (w.heap.size + 1 + 1 + 1) (by omega)
        have f4 := HF.out (w.heap.size + 4) (by omega)
        have f5 := HF.out w2.heap.size (by omega)
        have g0 := T4.fpn hlt0 f0
        have g1 := T4.fpn hlt1 f1
        have g2 := T4.fpn hlt2 f2
        have g3 := T4.fpn hlt3 f3
        have g4 := T4.fpn hlt4 f4
        have g5 := T4.fpn hlt5 f5
        have e0 : w4.drew.cell? ⟨w.heap.size, 0, none⟩ = some (.pointer (some ⟨k1.p, 0, none⟩)) := by rw [T4.p]; exact T4.cell c0 f0
        have e1 : w4.drew.cell? ⟨w.heap.size + 1, 0, none⟩ = some (.int .i32 f) := T4.cell c1 f1
        have e2 : w4.drew.cell? ⟨w.heap.size + 1 + 1, 0, none⟩ = some (.int .i32 g) := T4.cell c2 f2
        have e3 : w4.drew.cell? ⟨w.heap.size + 1 + 1 + 1, 0, none⟩ = some (.int .i32 h) := T4.cell c3 f3
        have e5 : w4.drew.cell? ⟨w2.heap.size, 0, none⟩ = some (.int .i32 v) := T4.cell c5 f5
        have hA4d := hA4.below ((Below.refl _ w4).drew)
        have HP2 := hide (part_any n hI S k1 s1 f g h tf tg th v F G H true w4.drew _ _ _ _ _ hA4d (d1.up U4) (d2.up U4) (d3.up U4) HV.out hv2 (by omega) (by omega) e0 e1 e5 e2 e3 g0 g1 g5 g2 g3)
        have x4' := hide (T4.heap x4 f4)
        have HT4 := hide (T4.trans (Turn.below (k := k1) ((Below.refl _ w4).drew)))
        have HSZ := hide T4.size
        have HO4 := hide o4
        have HU4 := hide U4
        have hk4 : w4.drew.cell? ⟨w.heap.size, 0, none⟩ = some (.pointer (some ⟨k.p, 0, none⟩)) ∧ w4.drew.cell? ⟨w2.heap.size, 0, none⟩ = some (.int .i32 v) := ⟨T4.cell c0 f0, T4.cell c5 f5⟩
        clear hA4 hA4d T4 U4 o4 HP1 c0 c1 c2 c3 c5 e0 e1 e2 e3 e5 x0 x1 x2 x3 x4 x5 HA3
        go_wp2_with fail
        go_region_held3 (fun w' => w'.cell? ⟨w.heap.size, 0, none⟩ = some (.pointer (some ⟨k.p, 0, none⟩)) ∧ w'.cell? ⟨w2.heap.size, 0, none⟩ = some (.int .i32 v))
          (first | exact hk4 | exact hk5 | exact hk6)
          (first
            | (go_at_call 57; with_reducible refine HP2.out.mono ?_; intro e w5 hh; unfold NodeOut at hh; obtain ⟨k2, s2, hi, he, hA5, T5, U5, m5, o5⟩ := hh; subst he; have hk5 := And.intro (T5.cell hk4.1 g0) (T5.cell hk4.2 g5); have HA5 := hide hA5; have HT5 := hide T5; have HU5 := hide U5; have HO5 := hide o5; clear hA5 T5 U5 o5)
            | (go_at_call 41; with_reducible refine (ite_mk hW d1 d2 d3 HV.out hv2 hS HU4.out HU5.out HO4.out HO5.out HA5.out (by omega) (HT5.out.p.trans HT4.out.p)).mono ?_; rintro e w6 ⟨k3, s3, r, he, hA6, T6, U6, m6, o6⟩; subst he; have hk6 := And.intro (T6.cell hk5.1 (HT5.out.fpn (lt_of_cell hk4.1) g0)) (T6.cell hk5.2 (HT5.out.fpn (lt_of_cell hk4.2) g5)); have HA6 := hide hA6; have HT6 := hide T6; have HU6 := hide U6; have HO6 := hide o6; clear hA6 T6 U6 o6))
        all_goals (
          go_wp2_with fail
          have x6 := hide (HT6.out.heap (HT5.out.heap x4'.out g4) (HT5.out.fpn (lt_heap x4'.out) g4))
          obtain ⟨fb6, ft6, H6, I6⟩ := HA6.out
          have hp3 : k3.p = k.p := HT6.out.p.trans (HT5.out.p.trans HT4.out.p)
          have u0 : w6.drew.cell? ⟨w.heap.size, 0, none⟩ = some (.pointer (some ⟨k.p, 0, none⟩)) := hk6.1
          have u1 : w6.drew.cell? ⟨k.p, 4, none⟩ = some (.map (some k3.it)) := by rw [← hp3]; exact H6.drew.c4
          have u2 : w6.drew.cell? ⟨w.heap.size + 4, 0, none⟩ = some (.int .i32 f) := cell_heap x6.out rfl
          have u3 : w6.drew.cell? ⟨w.heap.size + 4, 1, none⟩ = some (.int .i32 g) := cell_heap x6.out rfl
          have u4 : w6.drew.cell? ⟨w.heap.size + 4, 2, none⟩ = some (.int .i32 h) := cell_heap x6.out rfl
          have u5 : w6.drew.cell? ⟨w.heap.size + 1 + 1 + 1 + 1, 0, none⟩ = some (.int .i32 f) := cell_heap x6.out rfl
          have u6 : w6.drew.cell? ⟨w.heap.size + 1 + 1 + 1 + 1, 1, none⟩ = some (.int .i32 g) := cell_heap x6.out rfl
          have u7 : w6.drew.cell? ⟨w.heap.size + 1 + 1 + 1 + 1, 2, none⟩ = some (.int .i32 h) := cell_heap x6.out rfl
          have hU := (HU4.out.trans HU5.out).trans HU6.out
          obtain ⟨ex, hex⟩ := hU.nd
          have hrl : r < s3.nd.length := by
            obtain ⟨t, _, d⟩ := HO6.out S _ _ _ _ _ _ d1 d2 d3
            exact d.lt I6.wf
          have hl3 := hU.len
          have hnm3 := I6.nm
          have hI8 := hide (I6.memo (f := f) (g := g) (h := h) (by omega) (by omega) (by omega) hrl (by rw [hex]; exact OkIte.lift l1 l2 l3 (by rw [← hex]; exact HO6.out)))
          have HH6 := hide H6.drew
          have HTT := hide ((((Turn.below (k := k) HB3.out).trans HT4.out).trans HT5.out).trans (HT6.out.trans (Turn.below ((Below.refl _ w6).drew))))
          have HUU := hide hU
          clear H6 I6 hex hU
          have v1 : s3.m < maxLen := by unfold maxLen; omega
          have v2 : (Lit.int .i32 r).wf = true := wf3 (by omega) (by omega)
          go_still_tail 6, (by kernel_rfl)
          change wpList _ _ _ _ _ w6.drew
          generalize w6.drew = w7 at *
          go_wp2_with (at_mapUpdate; go_must (refine wpList_put rfl (.tmp 89) (.tmp 90) (.tmp 91) rfl HH6.out.it keyedT Try.underlying61 Try.underlying21 v1 encN_inj rfl (f, g, h) kl rfl hkl r rfl v2 ?_))
          intro w8 hmi hmt
          obtain ⟨H8, T8⟩ := HH6.out.itPut hmi hmt
          have HX := hide (show NodeOut k s w (2 ^ (nS S v + 1)) (fun nd' r => OkIte s.nd nd' f g h r) (.returned (.int .i32 (r : Nat))) w8 from
            ⟨k3, _, r, rfl, ⟨_, _, H8, hI8.out⟩, HTT.out.trans T8, ⟨HUU.out.vs, HUU.out.ms, HUU.out.gi, HUU.out.gn, HUU.out.he, HUU.out.hn, HUU.out.nd, Nat.le_succ_of_le HUU.out.m⟩, by simp only; omega, HO6.out⟩)
          clear hmi hmt H8 T8
          go_wp2_with fail
          go_ret
          exact HX.out))
theorem ite_all : ∀ n, IteAt n := by
  intro n
  induction n with
  | zero => intro S k s f g h tf tg th F G H w hn; omega
  | succ n ih => exact ite_step n ih
/-- g where f is true, else h -/
theorem ite_any (S : Nat → Bool) (k : Blk) (s : St) (f g h tf tg th : Nat) (F G H : Env → Bool) (w : World) (hA : Ar w k s) (d1 : Den S s.nd f tf F) (d2 : Den S s.nd g tg G) (d3 : Den S s.nd h th H) (hm : s.m + 2 ^ (nS S (min tf (min tg th)) + 1) ≤ 1000000000) :
    Calls Try.prog 40 #[.pointer (some ⟨k.p, 0, none⟩), .int .i32 f, .int .i32 g, .int .i32 h] w (NodeOut k s w (2 ^ (nS S (min tf (min tg th)) + 1)) (fun nd' r => OkIte s.nd nd' f g h r)) :=
  ite_all 257 S k s f g h tf tg th F G H w (by omega) hA d1 d2 d3 hm
end Go.Proofs.Ytgfjdkkfgclhjaa.Bd
