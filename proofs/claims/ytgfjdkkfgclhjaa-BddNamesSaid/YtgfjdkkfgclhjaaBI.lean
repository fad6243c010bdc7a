/- The visit that give makes: the nodes beneath one that are not held, each once. -/
import Derived.Test.YtgfjdkkfgclhjaaBC
namespace Go.Proofs.Ytgfjdkkfgclhjaa.Bd
open Go.RowKit Go.Proofs.Ytgfjdkkfgclhjaa Go.Proofs.Ytgfjdkkfgclhjaa.Lx Go.Maps

/-- the visit, in plain words: fr was met already -/
def vis (nd : List Nd) (he : Int → Bool) : Nat → List Nat → Nat → List Nat
  | 0, fr, _ => fr
  | n + 1, fr, f => if f < 2 ∨ f ∈ fr ∨ he f = true then fr else match nd[f]? with
    | some (_, lo, hi) => vis nd he n (vis nd he n (fr ++ [f]) lo) hi
    | none => fr
/-- what is met: each once, none held, inner nodes all -/
structure Met (nd : List Nd) (he : Int → Bool) (fr : List Nat) : Prop where
  nodup : fr.Nodup
  all : ∀ x ∈ fr, 2 ≤ x ∧ x < nd.length ∧ he x = false
theorem Met.nil (nd : List Nd) (he : Int → Bool) : Met nd he [] := ⟨List.nodup_nil, fun _ h => by cases h⟩
theorem Met.push {nd : List Nd} {he : Int → Bool} {fr : List Nat} (h : Met nd he fr) {f : Nat} (h1 : ¬ (f < 2 ∨ f ∈ fr ∨ he f = true)) (h2 : f < nd.length) : Met nd he (fr ++ [f]) := by
  simp only [not_or] at h1
  obtain ⟨a, b, c⟩ := h1
  refine ⟨List.nodup_append.2 ⟨h.nodup, by simp, fun x hx y hy e => ?_⟩, fun x hx => ?_⟩
  · have : y = f := by simpa using hy
    subst this
    subst e
    exact b hx
  · rcases List.mem_append.1 hx with hx | hx
    · exact h.all x hx
    · have : x = f := by simpa using hx
      subst this
      exact ⟨by omega, h2, by simpa using c⟩
theorem nodup_len {fr : List Nat} {n : Nat} (h : fr.Nodup) (hl : ∀ x ∈ fr, x < n) : fr.length ≤ n := by
  have := List.Nodup.length_le_of_subset (l₂ := List.range n) h (fun x hx => by simpa using hl x hx)
  simpa using this
theorem Met.len {nd : List Nd} {he : Int → Bool} {fr : List Nat} (h : Met nd he fr) : fr.length ≤ nd.length := nodup_len h.nodup (fun x hx => (h.all x hx).2.1)
theorem vis_met {nd : List Nd} (hw : WF nd) {he : Int → Bool} : ∀ (n : Nat) (fr : List Nat) (f : Nat), f < nd.length → Met nd he fr → Met nd he (vis nd he n fr f) := by
  intro n
  induction n with
  | zero => intro fr f _ h; exact h
  | succ n ih =>
    intro fr f hf h
    unfold vis
    split
    · exact h
    · rename_i h1
      obtain ⟨⟨v, lo, hi⟩, hx⟩ : ∃ x, nd[f]? = some x := ⟨_, List.getElem?_eq_getElem hf⟩
      obtain ⟨t, F, d⟩ := hw.den f hf
      obtain ⟨lo', hi', _, _, _, _, hr, r1, r2, _⟩ := d.row (by omega)
      rw [hx] at hr
      simp only [Option.some.injEq, Prod.mk.injEq] at hr
      obtain ⟨_, rfl, rfl⟩ := hr
      rw [hx]
      simp only
      exact ih _ _ (by omega) (ih _ _ (by omega) (h.push h1 hf))
/-- enough is enough -/
theorem vis_fuel {nd : List Nd} (hw : WF nd) {he : Int → Bool} : ∀ (n m : Nat) (fr : List Nat) (f : Nat), f < nd.length → f < n → f < m → vis nd he n fr f = vis nd he m fr f := by
  intro n
  induction n with
  | zero => intro m fr f _ h; omega
  | succ n ih =>
    intro m fr f hf h1 h2
    cases m with
    | zero => omega
    | succ m =>
      unfold vis
      split
      · rfl
      · rename_i hc
        obtain ⟨⟨v, lo, hi⟩, hx⟩ : ∃ x, nd[f]? = some x := ⟨_, List.getElem?_eq_getElem hf⟩
        obtain ⟨t, F, d⟩ := hw.den f hf
        obtain ⟨lo', hi', _, _, _, _, hr, r1, r2, _⟩ := d.row (by omega)
        rw [hx] at hr
        simp only [Option.some.injEq, Prod.mk.injEq] at hr
        obtain ⟨_, rfl, rfl⟩ := hr
        rw [hx]
        simp only
        rw [ih m _ lo (by omega) (by omega) (by omega), ih m _ hi (by omega) (by omega) (by omega)]
def seenB (fr : List Nat) (x : Int) : Bool := decide (0 ≤ x ∧ (x < 2 ∨ x.toNat ∈ fr))
theorem seenB_nat (fr : List Nat) (f : Nat) : seenB fr f = decide (f < 2 ∨ f ∈ fr) := by
  unfold seenB
  congr 1
  simp only [Int.toNat_natCast, eq_iff_iff]
  constructor
  · rintro ⟨_, h | h⟩
    · left; omega
    · right; exact h
  · rintro (h | h)
    · exact ⟨by omega, by left; omega⟩
    · exact ⟨by omega, by right; exact h⟩
theorem seenB_push (fr : List Nat) (f : Nat) : (fun x : Int => decide (x = (f : Int)) || seenB fr x) = seenB (fr ++ [f]) := by
  funext x
  unfold seenB
  rw [← Bool.decide_or]
  congr 1
  simp only [List.mem_append, List.mem_singleton, eq_iff_iff]
  constructor
  · rintro (h | ⟨h1, h2 | h2⟩)
    · subst h; exact ⟨by omega, by right; right; omega⟩
    · exact ⟨h1, .inl h2⟩
    · exact ⟨h1, .inr (.inl h2)⟩
  · rintro ⟨h1, h2 | h2 | h2⟩
    · exact .inr ⟨h1, .inl h2⟩
    · exact .inr ⟨h1, .inr h2⟩
    · left; omega

/-- what the visit has in memory -/
structure Vs (w0 w : World) (p b1 b2 b3 b4 sb : Nat) (fr : List Nat) : Prop where
  c1 : w.heap[b1]? = some (.cells #[.map (some sb)] 63 (0, 0))
  c2 : w.heap[b2]? = some (.cells #[.pointer (some ⟨p, 0, none⟩)] 24 (0, 0))
  c4 : w.heap[b4]? = some (.cells #[.func (.func 55) #[] #[.pointer (some ⟨b1, 0, none⟩), .pointer (some ⟨b2, 0, none⟩), .pointer (some ⟨b3, 0, none⟩), .pointer (some ⟨b4, 0, none⟩)]] 87 (0, 0))
  seen : MSet Try.prog w 21 4 sb (fr.length + 2) (fr.length + 2) enc3 (seenB fr)
  row : ∃ v, w.heap[b3]? = some (.cells #[v] 73 (0, 0)) ∧ w.ownsRow w0.heap.size 21 1 v fr.length (fr.map fun (x : Nat) => enc3 x)
  below : Below w0.heap.size w0 w
  l1 : w0.heap.size ≤ b1
  l2 : w0.heap.size ≤ b2
  l3 : w0.heap.size ≤ b3
  l4 : w0.heap.size ≤ b4
  l5 : w0.heap.size ≤ sb
theorem grown_set {w : World} {b j : Nat} {u : Value} : w.grownBy (w.setCell ⟨b, j, none⟩ u) (some b) := ⟨rfl, rfl, rfl, by simp [World.setCell], fun i _ hi => Below.heap_setCell _ _ _ _ (fun e => hi (by rw [e]))⟩
theorem opt_ne {a b : Nat} (h : a ≠ b) : some a ≠ some b := fun e => h (by injection e)
theorem infoI : (Try.prog.info? 21).map (fun i => (i.zero, i.size, i.bytes)) = some (some (.int .i32 0), 1, 4) := by kernel_rfl

variable {w0 w w' : World} {p b1 b2 b3 b4 sb : Nat} {fr : List Nat}
/-- .. a node is marked as met -/
theorem Vs.mark (V : Vs w0 w p b1 b2 b3 b4 sb fr) {f : Nat} (hm : MSet Try.prog w' 21 4 sb (fr.length + 2 + 1) (fr.length + 2 + 1) enc3 (seenB (fr ++ [f]))) (hg : w.mapTurned w' sb) :
    w'.heap[b1]? = some (.cells #[.map (some sb)] 63 (0, 0)) ∧ w'.heap[b2]? = some (.cells #[.pointer (some ⟨p, 0, none⟩)] 24 (0, 0)) ∧
    w'.heap[b4]? = some (.cells #[.func (.func 55) #[] #[.pointer (some ⟨b1, 0, none⟩), .pointer (some ⟨b2, 0, none⟩), .pointer (some ⟨b3, 0, none⟩), .pointer (some ⟨b4, 0, none⟩)]] 87 (0, 0)) ∧
    (∃ v, w'.heap[b3]? = some (.cells #[v] 73 (0, 0)) ∧ w'.ownsRow w0.heap.size 21 1 v fr.length (fr.map fun (x : Nat) => enc3 x)) ∧ Below w0.heap.size w0 w' := by
  obtain ⟨es, cl, hs⟩ := V.seen.heap
  obtain ⟨v, hv, hr⟩ := V.row
  have hg := hg.grown
  have ne : ∀ {b : Nat} {cs : Array Value} {t : TypeId}, w.heap[b]? = some (.cells cs t (0, 0)) → some sb ≠ some b := fun h => opt_ne (Ne.symm (ne_kind h hs))
  refine ⟨heap_grown V.c1 hg (ne V.c1), heap_grown V.c2 hg (ne V.c2), heap_grown V.c4 hg (ne V.c4), ⟨v, heap_grown hv hg (ne hv), own_kept hr hg (fun g e1 e2 => ?_)⟩, V.below.grown hg V.below.size (fun b e => by injection e with e; have := V.l5; omega)⟩
  injection e1 with e1
  subst e1
  rcases hr.2 with ⟨rfl, _⟩ | ⟨g, cap, cur, rfl, _, hh, _⟩
  · cases e2
  · have : g = sb := by simpa [Value.ownBlock] using e2
    subst this
    rw [hs] at hh
    cases hh
theorem own_ne_map {w : World} {base size n sb : Nat} {e : TypeId} {v : Value} {xs : List Value} {es : Array MapEntry} {cl : Nat} (hr : w.ownsRow base e size v n xs) (hs : w.heap[sb]? = some (.map es cl)) : v.ownBlock ≠ some sb := by
  rcases hr.2 with ⟨rfl, _⟩ | ⟨g, cap, cur, rfl, _, hh, _⟩
  · intro h; cases h
  · intro h
    have : g = sb := by simpa [Value.ownBlock] using h
    subst this
    rw [hs] at hh
    cases hh
theorem Vs.drew (V : Vs w0 w p b1 b2 b3 b4 sb fr) : Vs w0 w.drew p b1 b2 b3 b4 sb fr := ⟨V.c1, V.c2, V.c4, V.seen, V.row, V.below.drew, V.l1, V.l2, V.l3, V.l4, V.l5⟩
/-- .. and stands behind the others -/
theorem Vs.put {w1 w2 : World} {f : Nat} {v v' : Value} (e1 : w1.heap[b1]? = some (.cells #[.map (some sb)] 63 (0, 0))) (e2 : w1.heap[b2]? = some (.cells #[.pointer (some ⟨p, 0, none⟩)] 24 (0, 0)))
    (e4 : w1.heap[b4]? = some (.cells #[.func (.func 55) #[] #[.pointer (some ⟨b1, 0, none⟩), .pointer (some ⟨b2, 0, none⟩), .pointer (some ⟨b3, 0, none⟩), .pointer (some ⟨b4, 0, none⟩)]] 87 (0, 0)))
    (e3 : w1.heap[b3]? = some (.cells #[v] 73 (0, 0))) (hr : w1.ownsRow w0.heap.size 21 1 v fr.length (fr.map fun (x : Nat) => enc3 x)) (eB : Below w0.heap.size w0 w1) (V : Vs w0 w p b1 b2 b3 b4 sb fr)
    (em : MSet Try.prog w1 21 4 sb (fr.length + 2 + 1) (fr.length + 2 + 1) enc3 (seenB (fr ++ [f]))) (o : Obj) (hown : w2.ownsRow w0.heap.size 21 1 v' (fr.length + 1) ((fr.map fun (x : Nat) => enc3 x) ++ [.int .i32 f])) (hg : (w1.alloc o).grownBy w2 v.ownBlock) :
    w2.heap[b3]? = some (.cells #[v] 73 (0, 0)) ∧ Vs w0 (w2.setCell ⟨b3, 0, none⟩ v') p b1 b2 b3 b4 sb (fr ++ [f]) := by
  have hl : (fr ++ [f]).length = fr.length + 1 := by simp
  have hr1 := hr.alloc o
  have f1 := heap_grown (heap_old (p := o) e1) hg (own_ne_row hr1 (heap_old e1) (by decide))
  have f2 := heap_grown (heap_old (p := o) e2) hg (own_ne_row hr1 (heap_old e2) (by decide))
  have f3 := heap_grown (heap_old (p := o) e3) hg (own_ne_row hr1 (heap_old e3) (by decide))
  have f4 := heap_grown (heap_old (p := o) e4) hg (own_ne_row hr1 (heap_old e4) (by decide))
  obtain ⟨es, cl, hs⟩ := em.heap
  have em1 := em.kept (World.grownBy_alloc w1 o none) (by simp)
  obtain ⟨es1, cl1, hs1⟩ := em1.heap
  have em2 := em1.kept hg (fun e => own_ne_map hr1 hs1 e.symm)
  obtain ⟨es2, cl2, hs2⟩ := em2.heap
  have hb3 : w0.heap.size ≤ b3 := V.l3
  refine ⟨f3, heap_far f1 (heap_ne f1 f3 (by decide)), heap_far f2 (heap_ne f2 f3 (by decide)), heap_far f4 (heap_ne f4 f3 (by decide)), ?_, ⟨v', ?_, ?_⟩, ?_, V.l1, V.l2, V.l3, V.l4, V.l5⟩
  · rw [hl]
    exact em2.setCell (Ne.symm (ne_kind f3 hs2)) _
  · rw [heap_set f3]; simp
  · rw [hl, List.map_append]
    refine own_kept hown grown_set (fun g e1 e2 => ?_)
    injection e1 with e1
    subst e1
    exact own_ne_row hown f3 (by decide) e2
  · exact ((eB.alloc eB.size o).grown hg (by have := eB.size; simp; omega) (fun b e => (hr1.lt b e).1)).setCell hb3 _
set_option maxHeartbeats 2000000 in
set_option maxRecDepth 100000 in
theorem visit_any (k : Blk) (s : St) (w0 : World) (hA : Ar w0 k s) (hm : s.m + 2 ≤ 2147483648) (b1 b2 b3 b4 sb : Nat) : ∀ (n f : Nat) (fr : List Nat) (w : World), f < n → f < s.nd.length → Met s.nd s.he fr → Vs w0 w k.p b1 b2 b3 b4 sb fr →
    Calls Try.prog 55 #[.int .i32 f, .pointer (some ⟨b1, 0, none⟩), .pointer (some ⟨b2, 0, none⟩), .pointer (some ⟨b3, 0, none⟩), .pointer (some ⟨b4, 0, none⟩)] w fun e w' => e = .returned (.tuple #[]) ∧ Vs w0 w' k.p b1 b2 b3 b4 sb (vis s.nd s.he n fr f) := by
  obtain ⟨fb, ft, H0, I⟩ := hA
  have hW := I.wf
  have hnm := I.nm
  intro n
  induction n with
  | zero => intro f fr w h; omega
  | succ n ih =>
    intro f fr w hfn hf hM V
    have hlen := hM.len
    have H := H0.below (V.below.mono (Nat.le_refl _) |> fun h => (⟨h.os, h.tape, h.output, h.size, h.block⟩ : Below w0.heap.size w0 w))
    have k1 := cell_heap (j := 0) V.c1 rfl
    have k2 := cell_heap (j := 0) V.c2 rfl
    have k6 := H.c6
    have lk1 : (Instr.lookup 63 (.map (some sb)) (.int .i32 f) false).run Try.prog w = .ok (.bool (seenB fr f)) w := V.seen.look keyed3 Try.underlying63 Try.underlying4 (zeroB _) (key3 f (by omega) (by omega))
    have lk2 : (Instr.lookup 63 (.map (some k.he)) (.int .i32 f) false).run Try.prog w = .ok (.bool (s.he f)) w := H.he.look keyed3 Try.underlying63 Try.underlying4 (zeroB _) (key3 f (by omega) (by omega))
    cases hs : seenB fr f with
    | true =>
      rw [hs] at lk1
      have HV : Hid (Vs w0 w k.p b1 b2 b3 b4 sb (vis s.nd s.he (n + 1) fr f)) := by
        rw [seenB_nat] at hs
        have : vis s.nd s.he (n + 1) fr f = fr := by
          unfold vis
          rw [if_pos]
          rcases of_decide_eq_true hs with h | h
          · exact .inl h
          · exact .inr (.inl h)
        rw [this]; exact V
      clear V H H0 I hM ih hs
      go_enter Try.func55, Try.ntmps55
      go_wp2_with fail
      (try simp only [Exit.inBlock, Exit.then])
      refine bodyPost_ret (results_none rfl _ _ _) rfl ?_
      exact ⟨rfl, HV.out⟩
    | false =>
      rw [hs] at lk1
      cases hh : s.he f with
      | true =>
        rw [hh] at lk2
        have HV : Hid (Vs w0 w k.p b1 b2 b3 b4 sb (vis s.nd s.he (n + 1) fr f)) := by
          have : vis s.nd s.he (n + 1) fr f = fr := by
            unfold vis
            rw [if_pos (.inr (.inr hh))]
          rw [this]; exact V
        clear V H H0 I hM ih hs
        go_enter Try.func55, Try.ntmps55
        go_wp2_with fail
        (try simp only [Exit.inBlock, Exit.then])
        refine bodyPost_ret (results_none rfl _ _ _) rfl ?_
        exact ⟨rfl, HV.out⟩
      | false =>
        rw [hh] at lk2
        have hsf := hs
        rw [seenB_nat] at hs
        have hc : ¬ (f < 2 ∨ f ∈ fr ∨ s.he f = true) := by
          have := of_decide_eq_false hs
          rintro (h | h | h)
          · exact this (.inl h)
          · exact this (.inr h)
          · rw [hh] at h; cases h
        obtain ⟨⟨v, lo, hi⟩, hx⟩ : ∃ x, s.nd[f]? = some x := ⟨_, List.getElem?_eq_getElem hf⟩
        obtain ⟨t, F, d⟩ := hW.den f hf
        obtain ⟨lo', hi', _, _, _, _, hr, r1, r2, _⟩ := d.row (by omega)
        rw [hx] at hr
        simp only [Option.some.injEq, Prod.mk.injEq] at hr
        obtain ⟨_, rfl, rfl⟩ := hr
        have hvis : vis s.nd s.he (n + 1) fr f = vis s.nd s.he n (vis s.nd s.he n (fr ++ [f]) lo) hi := by
          conv => lhs; unfold vis
          rw [if_neg hc, hx]
        rw [hvis]
        have HM := hide (hM.push hc hf)
        have HM2 := hide (vis_met hW n (fr ++ [f]) lo (by omega) HM.out)
        have IH1 := fun w => ih lo (fr ++ [f]) w (by omega) (by omega) HM.out
        have IH2 := fun w => ih hi (vis s.nd s.he n (fr ++ [f]) lo) w (by omega) (by omega) HM2.out
        have HI1 := hide IH1
        have HI2 := hide IH2
        have HVV := hide V
        have HH0 := hide H0
        clear ih IH1 IH2 d V H0 hvis
        go_enter Try.func55, Try.ntmps55
        go_wp2_with (at_mapUpdate; go_must (refine wpList_add rfl (.tmp 17) (.tmp 18) _ rfl HVV.out.seen keyed3 Try.underlying63 Try.underlying4 (by unfold maxLen; omega) enc3_inj rfl (f : Int) _ rfl (key3 f (by omega) (by omega)) rfl ?_))
        simp only [hsf, Bool.false_eq_true, if_false, seenB_push]
        intro w1 hms hmt
        obtain ⟨e1, e2, e4, ⟨vr, e3, hrow⟩, eB⟩ := HVV.out.mark hms hmt
        have hms2 := hms
        have q3 := cell_heap (j := 0) e3 rfl
        have q3f : w1.frozen? ⟨b3, 0, none⟩ = false := frozen_heap e3
        obtain ⟨A3, C3, rfl⟩ := own_slice hrow
        obtain ⟨i1, hi1, iz1, is1, ib1⟩ := info_at infoI
        have E1 := hide e1
        have E2 := hide e2
        have E3 := hide e3
        have E4 := hide e4
        have EB := hide eB
        have ER := hide hrow
        have EM := hide hms2
        clear e1 e2 e4 e3 hrow eB hms hmt hms2 lk1 lk2 k6 H
        have hrow2 := hide (ER.out.alloc (Obj.cells #[.int .i32 f] 21))
        go_wp2_with (at_builtin; go_must (refine wpList_append_own _ rfl (.tmp 19) (.tmp 21) 73 rfl w0.heap.size 21 i1 _ 1 4 Try.underlying73 hi1 iz1 is1 ib1 rfl (by decide) _ fr.length (fr.map fun (x : Nat) => enc3 x) rfl hrow2.out ⟨w1.heap.size, 0, none⟩ 1 1 [.int .i32 f] rfl rfl ?cells ?ones ?c63 ?cby ?cbase ?_))
        case cells =>
          intro j u hj
          match j, hj with
          | 0, hj => simp at hj; subst hj; simp [Addr.add, go_sem]
          | j + 1, hj => simp at hj
        case ones => simp [Value.oneCell']
        case c63 => unfold maxLen; omega
        case cby => omega
        case cbase => have := EB.out.size; simp; omega
        intro v' w2 hown' hgrow _
        obtain ⟨A4, C4, rfl⟩ := own_slice hown'
        obtain ⟨f3, V3⟩ := Vs.put E1.out E2.out E4.out E3.out ER.out EB.out HVV.out EM.out _ hown' hgrow
        have q4 := cell_heap (j := 0) f3 rfl
        have q4f : w2.frozen? ⟨b3, 0, none⟩ = false := frozen_heap f3
        have HV3 := hide V3
        clear V3 f3 hown' hgrow hrow2 E1 E2 E3 E4 EB ER EM HVV
        go_wp2_with fail
        generalize w2.setCell ⟨b3, 0, none⟩ (.slice A4 (fr.length + 1) C4) = w3 at *
        have H3 := HH0.out.below HV3.out.below
        have g4 : w3.drew.cell? ⟨b4, 0, none⟩ = some _ := cell_heap HV3.out.c4 rfl
        have g2 : w3.drew.cell? ⟨b2, 0, none⟩ = some (.pointer (some ⟨k.p, 0, none⟩)) := cell_heap HV3.out.c2 rfl
        have g5 := H3.drew.c2
        have g6 := (H3.drew.node hx).2.1
        have r0 : (f : Int) < s.nd.length := by omega
        go_still_tail 9, (by kernel_rfl)
        change wpList _ _ _ _ _ w3.drew
        have HV4 := hide HV3.out.drew
        generalize w3.drew = w4 at *
        clear g4 g2 g5 g6 H3 HV3
        go_wp2_with fail
        refine (HI1.out _ HV4.out).mono ?_
        rintro e w5 ⟨rfl, V5⟩
        have HV5 := hide V5
        clear V5 HV4
        go_wp2_with fail
        have H5 := HH0.out.below HV5.out.below
        have g4 : w5.drew.cell? ⟨b4, 0, none⟩ = some _ := cell_heap HV5.out.c4 rfl
        have g2 : w5.drew.cell? ⟨b2, 0, none⟩ = some (.pointer (some ⟨k.p, 0, none⟩)) := cell_heap HV5.out.c2 rfl
        have g5 := H5.drew.c2
        have g6 := (H5.drew.node hx).2.2
        go_still_tail 9, (by kernel_rfl)
        change wpList _ _ _ _ _ w5.drew
        have HV6 := hide HV5.out.drew
        generalize w5.drew = w6 at *
        clear g4 g2 g5 g6 H5 HV5
        go_wp2_with fail
        refine (HI2.out _ HV6.out).mono ?_
        rintro e w7 ⟨rfl, V7⟩
        have HV7 := hide V7
        clear V7 HV6
        go_wp2_with fail
        go_end0
        exact ⟨rfl, HV7.out⟩
end Go.Proofs.Ytgfjdkkfgclhjaa.Bd
