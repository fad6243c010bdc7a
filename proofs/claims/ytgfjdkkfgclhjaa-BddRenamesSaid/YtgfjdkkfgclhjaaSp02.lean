/- What the claim leans on, part 2 of 7: BI BD BE BF BJ BK BH BG BL. -/
import Derived.Laws.Cover1
import Derived.Laws.EntriesVeiled
import Derived.Test.YtgfjdkkfgclhjaaSp01
/- The visit that give makes: the nodes beneath one that are not held, each once. -/
namespace Go.Proofs.Ytgfjdkkfgclhjaa.Bd
open Go.RowKit Go.Proofs.Ytgfjdkkfgclhjaa Go.Proofs.Ytgfjdkkfgclhjaa.Lx Go.Maps

/-- the visit, in plain words: fr was met already -/
def vis (nd : List Nd) (he : Int → Bool) : Nat → List Nat → Nat → List Nat
  | 0, fr, _ => fr
  | n + 1, fr, f => if f < 2 ∨ f ∈ fr ∨ he f = true then fr else match nd[f]? with
    | some (_, lo, hi) => vis nd he n (vis nd he n (fr ++ [f]) lo) hi
    | none => fr
/-- what is met: each once, none held, inner nodes all -/
structure Met (nd : List Nd) (he : Int → Bool) (fr : List Nat) : Prop where
  nodup : fr.Nodup
  all : ∀ x ∈ fr, 2 ≤ x ∧ x < nd.length ∧ he x = false
theorem Met.nil (nd : List Nd) (he : Int → Bool) : Met nd he [] := ⟨List.nodup_nil, fun _ h => by cases h⟩
theorem Met.push {nd : List Nd} {he : Int → Bool} {fr : List Nat} (h : Met nd he fr) {f : Nat} (h1 : ¬ (f < 2 ∨ f ∈ fr ∨ he f = true)) (h2 : f < nd.length) : Met nd he (fr ++ [f]) := by
  simp only [not_or] at h1
  obtain ⟨a, b, c⟩ := h1
  refine ⟨List.nodup_append.2 ⟨h.nodup, by simp, fun x hx y hy e => ?_⟩, fun x hx => ?_⟩
  · have : y = f := by simpa using hy
    subst this
    subst e
    exact b hx
  · rcases List.mem_append.1 hx with hx | hx
    · exact h.all x hx
    · have : x = f := by simpa using hx
      subst this
      exact ⟨by omega, h2, by simpa using c⟩
theorem nodup_len {fr : List Nat} {n : Nat} (h : fr.Nodup) (hl : ∀ x ∈ fr, x < n) : fr.length ≤ n := by
  have := List.Nodup.length_le_of_subset (l₂ := List.range n) h (fun x hx => by simpa using hl x hx)
  simpa using this
theorem Met.len {nd : List Nd} {he : Int → Bool} {fr : List Nat} (h : Met nd he fr) : fr.length ≤ nd.length := nodup_len h.nodup (fun x hx => (h.all x hx).2.1)
theorem vis_met {nd : List Nd} (hw : WF nd) {he : Int → Bool} : ∀ (n : Nat) (fr : List Nat) (f : Nat), f < nd.length → Met nd he fr → Met nd he (vis nd he n fr f) := by
  intro n
  induction n with
  | zero => intro fr f _ h; exact h
  | succ n ih =>
    intro fr f hf h
    unfold vis
    split
    · exact h
    · rename_i h1
      obtain ⟨⟨v, lo, hi⟩, hx⟩ : ∃ x, nd[f]? = some x := ⟨_, List.getElem?_eq_getElem hf⟩
      obtain ⟨t, F, d⟩ := hw.den f hf
      obtain ⟨lo', hi', _, _, _, _, hr, r1, r2, _⟩ := d.row (by omega)
      rw [hx] at hr
      simp only [Option.some.injEq, Prod.mk.injEq] at hr
      obtain ⟨_, rfl, rfl⟩ := hr
      rw [hx]
      simp only
      exact ih _ _ (by omega) (ih _ _ (by omega) (h.push h1 hf))
/-- enough is enough -/
theorem vis_fuel {nd : List Nd} (hw : WF nd) {he : Int → Bool} : ∀ (n m : Nat) (fr : List Nat) (f : Nat), f < nd.length → f < n → f < m → vis nd he n fr f = vis nd he m fr f := by
  intro n
  induction n with
  | zero => intro m fr f _ h; omega
  | succ n ih =>
    intro m fr f hf h1 h2
    cases m with
    | zero => omega
    | succ m =>
      unfold vis
      split
      · rfl
      · rename_i hc
        obtain ⟨⟨v, lo, hi⟩, hx⟩ : ∃ x, nd[f]? = some x := ⟨_, List.getElem?_eq_getElem hf⟩
        obtain ⟨t, F, d⟩ := hw.den f hf
        obtain ⟨lo', hi', _, _, _, _, hr, r1, r2, _⟩ := d.row (by omega)
        rw [hx] at hr
        simp only [Option.some.injEq, Prod.mk.injEq] at hr
        obtain ⟨_, rfl, rfl⟩ := hr
        rw [hx]
        simp only
        rw [ih m _ lo (by omega) (by omega) (by omega), ih m _ hi (by omega) (by omega) (by omega)]
def seenB (fr : List Nat) (x : Int) : Bool := decide (0 ≤ x ∧ (x < 2 ∨ x.toNat ∈ fr))
theorem seenB_nat (fr : List Nat) (f : Nat) : seenB fr f = decide (f < 2 ∨ f ∈ fr) := by
  unfold seenB
  congr 1
  simp only [Int.toNat_natCast, eq_iff_iff]
  constructor
  · rintro ⟨_, h | h⟩
    · left; omega
    · right; exact h
  · rintro (h | h)
    · exact ⟨by omega, by left; omega⟩
    · exact ⟨by omega, by right; exact h⟩
theorem seenB_push (fr : List Nat) (f : Nat) : (fun x : Int => decide (x = (f : Int)) || seenB fr x) = seenB (fr ++ [f]) := by
  funext x
  unfold seenB
  rw [← Bool.decide_or]
  congr 1
  simp only [List.mem_append, List.mem_singleton, eq_iff_iff]
  constructor
  · rintro (h | ⟨h1, h2 | h2⟩)
    · subst h; exact ⟨by omega, by right; right; omega⟩
    · exact ⟨h1, .inl h2⟩
    · exact ⟨h1, .inr (.inl h2)⟩
  · rintro ⟨h1, h2 | h2 | h2⟩
    · exact .inr ⟨h1, .inl h2⟩
    · exact .inr ⟨h1, .inr h2⟩
    · left; omega

/-- what the visit has in memory -/
structure Vs (w0 w : World) (p b1 b2 b3 b4 sb : Nat) (fr : List Nat) : Prop where
  c1 : w.heap[b1]? = some (.cells #[.map (some sb)] 63 (0, 0))
  c2 : w.heap[b2]? = some (.cells #[.pointer (some ⟨p, 0, none⟩)] 24 (0, 0))
  c4 : w.heap[b4]? = some (.cells #[.func (.func 55) #[] #[.pointer (some ⟨b1, 0, none⟩), .pointer (some ⟨b2, 0, none⟩), .pointer (some ⟨b3, 0, none⟩), .pointer (some ⟨b4, 0, none⟩)]] 87 (0, 0))
  seen : MSet Try.prog w 21 4 sb (fr.length + 2) (fr.length + 2) enc3 (seenB fr)
  row : ∃ v, w.heap[b3]? = some (.cells #[v] 73 (0, 0)) ∧ w.ownsRow w0.heap.size 21 1 v fr.length (fr.map fun (x : Nat) => enc3 x)
  below : Below w0.heap.size w0 w
  l1 : w0.heap.size ≤ b1
  l2 : w0.heap.size ≤ b2
  l3 : w0.heap.size ≤ b3
  l4 : w0.heap.size ≤ b4
  l5 : w0.heap.size ≤ sb
theorem grown_set {w : World} {b j : Nat} {u : Value} : w.grownBy (w.setCell ⟨b, j, none⟩ u) (some b) := ⟨rfl, rfl, rfl, by simp [World.setCell], fun i _ hi => Below.heap_setCell _ _ _ _ (fun e => hi (by rw [e]))⟩
theorem opt_ne {a b : Nat} (h : a ≠ b) : some a ≠ some b := fun e => h (by injection e)
theorem infoI : (Try.prog.info? 21).map (fun i => (i.zero, i.size, i.bytes)) = some (some (.int .i32 0), 1, 4) := by kernel_rfl

variable {w0 w w' : World} {p b1 b2 b3 b4 sb : Nat} {fr : List Nat}
/-- .. a node is marked as met -/
theorem Vs.mark (V : Vs w0 w p b1 b2 b3 b4 sb fr) {f : Nat} (hm : MSet Try.prog w' 21 4 sb (fr.length + 2 + 1) (fr.length + 2 + 1) enc3 (seenB (fr ++ [f]))) (hg : w.mapTurned w' sb) :
    w'.heap[b1]? = some (.cells #[.map (some sb)] 63 (0, 0)) ∧ w'.heap[b2]? = some (.cells #[.pointer (some ⟨p, 0, none⟩)] 24 (0, 0)) ∧
    w'.heap[b4]? = some (.cells #[.func (.func 55) #[] #[.pointer (some ⟨b1, 0, none⟩), .pointer (some ⟨b2, 0, none⟩), .pointer (some ⟨b3, 0, none⟩), .pointer (some ⟨b4, 0, none⟩)]] 87 (0, 0)) ∧
    (∃ v, w'.heap[b3]? = some (.cells #[v] 73 (0, 0)) ∧ w'.ownsRow w0.heap.size 21 1 v fr.length (fr.map fun (x : Nat) => enc3 x)) ∧ Below w0.heap.size w0 w' := by
  obtain ⟨es, cl, hs⟩ := V.seen.heap
  obtain ⟨v, hv, hr⟩ := V.row
  have hg := hg.grown
  have ne : ∀ {b : Nat} {cs : Array Value} {t : TypeId}, w.heap[b]? = some (.cells cs t (0, 0)) → some sb ≠ some b := fun h => opt_ne (Ne.symm (ne_kind h hs))
  refine ⟨heap_grown V.c1 hg (ne V.c1), heap_grown V.c2 hg (ne V.c2), heap_grown V.c4 hg (ne V.c4), ⟨v, heap_grown hv hg (ne hv), own_kept hr hg (fun g e1 e2 => ?_)⟩, V.below.grown hg V.below.size (fun b e => by injection e with e; have := V.l5; omega)⟩
  injection e1 with e1
  subst e1
  rcases hr.2 with ⟨rfl, _⟩ | ⟨g, cap, cur, rfl, _, hh, _⟩
  · cases e2
  · have : g = sb := by simpa [Value.ownBlock] using e2
    subst this
    rw [hs] at hh
    cases hh
theorem own_ne_map {w : World} {base size n sb : Nat} {e : TypeId} {v : Value} {xs : List Value} {es : Array MapEntry} {cl : Nat} (hr : w.ownsRow base e size v n xs) (hs : w.heap[sb]? = some (.map es cl)) : v.ownBlock ≠ some sb := by
  rcases hr.2 with ⟨rfl, _⟩ | ⟨g, cap, cur, rfl, _, hh, _⟩
  · intro h; cases h
  · intro h
    have : g = sb := by simpa [Value.ownBlock] using h
    subst this
    rw [hs] at hh
    cases hh
theorem Vs.drew (V : Vs w0 w p b1 b2 b3 b4 sb fr) : Vs w0 w.drew p b1 b2 b3 b4 sb fr := ⟨V.c1, V.c2, V.c4, V.seen, V.row, V.below.drew, V.l1, V.l2, V.l3, V.l4, V.l5⟩
/-- .. and stands behind the others -/
theorem Vs.put {w1 w2 : World} {f : Nat} {v v' : Value} (e1 : w1.heap[b1]? = some (.cells #[.map (some sb)] 63 (0, 0))) (e2 : w1.heap[b2]? = some (.cells #[.pointer (some ⟨p, 0, none⟩)] 24 (0, 0)))
    (e4 : w1.heap[b4]? = some (.cells #[.func (.func 55) #[] #[.pointer (some ⟨b1, 0, none⟩), .pointer (some ⟨b2, 0, none⟩), .pointer (some ⟨b3, 0, none⟩), .pointer (some ⟨b4, 0, none⟩)]] 87 (0, 0)))
    (e3 : w1.heap[b3]? = some (.cells #[v] 73 (0, 0))) (hr : w1.ownsRow w0.heap.size 21 1 v fr.length (fr.map fun (x : Nat) => enc3 x)) (eB : Below w0.heap.size w0 w1) (V : Vs w0 w p b1 b2 b3 b4 sb fr)
    (em : MSet Try.prog w1 21 4 sb (fr.length + 2 + 1) (fr.length + 2 + 1) enc3 (seenB (fr ++ [f]))) (o : Obj) (hown : w2.ownsRow w0.heap.size 21 1 v' (fr.length + 1) ((fr.map fun (x : Nat) => enc3 x) ++ [.int .i32 f])) (hg : (w1.alloc o).grownBy w2 v.ownBlock) :
    w2.heap[b3]? = some (.cells #[v] 73 (0, 0)) ∧ Vs w0 (w2.setCell ⟨b3, 0, none⟩ v') p b1 b2 b3 b4 sb (fr ++ [f]) := by
  have hl : (fr ++ [f]).length = fr.length + 1 := by simp
  have hr1 := hr.alloc o
  have f1 := heap_grown (heap_old (p := o) e1) hg (own_ne_row hr1 (heap_old e1) (by decide))
  have f2 := heap_grown (heap_old (p := o) e2) hg (own_ne_row hr1 (heap_old e2) (by decide))
  have f3 := heap_grown (heap_old (p := o) e3) hg (own_ne_row hr1 (heap_old e3) (by decide))
  have f4 := heap_grown (heap_old (p := o) e4) hg (own_ne_row hr1 (heap_old e4) (by decide))
  obtain ⟨es, cl, hs⟩ := em.heap
  have em1 := em.kept (World.grownBy_alloc w1 o none) (by simp)
  obtain ⟨es1, cl1, hs1⟩ := em1.heap
  have em2 := em1.kept hg (fun e => own_ne_map hr1 hs1 e.symm)
  obtain ⟨es2, cl2, hs2⟩ := em2.heap
  have hb3 : w0.heap.size ≤ b3 := V.l3
  refine ⟨f3, heap_far f1 (heap_ne f1 f3 (by decide)), heap_far f2 (heap_ne f2 f3 (by decide)), heap_far f4 (heap_ne f4 f3 (by decide)), ?_, ⟨v', ?_, ?_⟩, ?_, V.l1, V.l2, V.l3, V.l4, V.l5⟩
  · rw [hl]
    exact em2.setCell (Ne.symm (ne_kind f3 hs2)) _
  · rw [heap_set f3]; simp
  · rw [hl, List.map_append]
    refine own_kept hown grown_set (fun g e1 e2 => ?_)
    injection e1 with e1
    subst e1
    exact own_ne_row hown f3 (by decide) e2
  · exact ((eB.alloc eB.size o).grown hg (by have := eB.size; simp; omega) (fun b e => (hr1.lt b e).1)).setCell hb3 _
set_option maxHeartbeats 2000000 in
set_option maxRecDepth 100000 in
theorem visit_any (k : Blk) (s : St) (w0 : World) (hA : Ar w0 k s) (hm : s.m + 2 ≤ 2147483648) (b1 b2 b3 b4 sb : Nat) : ∀ (n f : Nat) (fr : List Nat) (w : World), f < n → f < s.nd.length → Met s.nd s.he fr → Vs w0 w k.p b1 b2 b3 b4 sb fr →
    Calls Try.prog 55 #[.int .i32 f, .pointer (some ⟨b1, 0, none⟩), .pointer (some ⟨b2, 0, none⟩), .pointer (some ⟨b3, 0, none⟩), .pointer (some ⟨b4, 0, none⟩)] w fun e w' => e = .returned (.tuple #[]) ∧ Vs w0 w' k.p b1 b2 b3 b4 sb (vis s.nd s.he n fr f) := by
  obtain ⟨fb, ft, H0, I⟩ := hA
  have hW := I.wf
  have hnm := I.nm
  intro n
  induction n with
  | zero => intro f fr w h; omega
  | succ n ih =>
    intro f fr w hfn hf hM V
    have hlen := hM.len
    have H := H0.below (V.below.mono (Nat.le_refl _) |> fun h => (⟨h.os, h.tape, h.output, h.size, h.block⟩ : Below w0.heap.size w0 w))
    have k1 := cell_heap (j := 0) V.c1 rfl
    have k2 := cell_heap (j := 0) V.c2 rfl
    have k6 := H.c6
    have lk1 : (Instr.lookup 63 (.map (some sb)) (.int .i32 f) false).run Try.prog w = .ok (.bool (seenB fr f)) w := V.seen.look keyed3 Try.underlying63 Try.underlying4 (zeroB _) (key3 f (by omega) (by omega))
    have lk2 : (Instr.lookup 63 (.map (some k.he)) (.int .i32 f) false).run Try.prog w = .ok (.bool (s.he f)) w := H.he.look keyed3 Try.underlying63 Try.underlying4 (zeroB _) (key3 f (by omega) (by omega))
    cases hs : seenB fr f with
    | true =>
      rw [hs] at lk1
      have HV : Hid (Vs w0 w k.p b1 b2 b3 b4 sb (vis s.nd s.he (n + 1) fr f)) := by
        rw [seenB_nat] at hs
        have : vis s.nd s.he (n + 1) fr f = fr := by
          unfold vis
          rw [if_pos]
          rcases of_decide_eq_true hs with h | h
          · exact .inl h
          · exact .inr (.inl h)
        rw [this]; exact V
      clear V H H0 I hM ih hs
      go_enter Try.func55, Try.ntmps55
      go_wp2_with fail
      (try simp only [Exit.inBlock, Exit.then])
      refine bodyPost_ret (results_none rfl _ _ _) rfl ?_
      exact ⟨rfl, HV.out⟩
    | false =>
      rw [hs] at lk1
      cases hh : s.he f with
      | true =>
        rw [hh] at lk2
        have HV : Hid (Vs w0 w k.p b1 b2 b3 b4 sb (vis s.nd s.he (n + 1) fr f)) := by
          have : vis s.nd s.he (n + 1) fr f = fr := by
            unfold vis
            rw [if_pos (.inr (.inr hh))]
          rw [this]; exact V
        clear V H H0 I hM ih hs
        go_enter Try.func55, Try.ntmps55
        go_wp2_with fail
        (try simp only [Exit.inBlock, Exit.then])
        refine bodyPost_ret (results_none rfl _ _ _) rfl ?_
        exact ⟨rfl, HV.out⟩
      | false =>
        rw [hh] at lk2
        have hsf := hs
        rw [seenB_nat] at hs
        have hc : ¬ (f < 2 ∨ f ∈ fr ∨ s.he f = true) := by
          have := of_decide_eq_false hs
          rintro (h | h | h)
          · exact this (.inl h)
          · exact this (.inr h)
          · rw [hh] at h; cases h
        obtain ⟨⟨v, lo, hi⟩, hx⟩ : ∃ x, s.nd[f]? = some x := ⟨_, List.getElem?_eq_getElem hf⟩
        obtain ⟨t, F, d⟩ := hW.den f hf
        obtain ⟨lo', hi', _, _, _, _, hr, r1, r2, _⟩ := d.row (by omega)
        rw [hx] at hr
        simp only [Option.some.injEq, Prod.mk.injEq] at hr
        obtain ⟨_, rfl, rfl⟩ := hr
        have hvis : vis s.nd s.he (n + 1) fr f = vis s.nd s.he n (vis s.nd s.he n (fr ++ [f]) lo) hi := by
          conv => lhs; unfold vis
          rw [if_neg hc, hx]
        rw [hvis]
        have HM := hide (hM.push hc hf)
        have HM2 := hide (vis_met hW n (fr ++ [f]) lo (by omega) HM.out)
        have IH1 := fun w => ih lo (fr ++ [f]) w (by omega) (by omega) HM.out
        have IH2 := fun w => ih hi (vis s.nd s.he n (fr ++ [f]) lo) w (by omega) (by omega) HM2.out
        have HI1 := hide IH1
        have HI2 := hide IH2
        have HVV := hide V
        have HH0 := hide H0
        clear ih IH1 IH2 d V H0 hvis
        go_enter Try.func55, Try.ntmps55
        go_wp2_with (at_mapUpdate; go_must (refine wpList_add rfl (.tmp 17) (.tmp 18) _ rfl HVV.out.seen keyed3 Try.underlying63 Try.underlying4 (by unfold maxLen; omega) enc3_inj rfl (f : Int) _ rfl (key3 f (by omega) (by omega)) rfl ?_))
        simp only [hsf, Bool.false_eq_true, if_false, seenB_push]
        intro w1 hms hmt
        obtain ⟨e1, e2, e4, ⟨vr, e3, hrow⟩, eB⟩ := HVV.out.mark hms hmt
        have hms2 := hms
        have q3 := cell_heap (j := 0) e3 rfl
        have q3f : w1.frozen? ⟨b3, 0, none⟩ = false := frozen_heap e3
        obtain ⟨A3, C3, rfl⟩ := own_slice hrow
        obtain ⟨i1, hi1, iz1, is1, ib1⟩ := info_at infoI
        have E1 := hide e1
        have E2 := hide e2
        have E3 := hide e3
        have E4 := hide e4
        have EB := hide eB
        have ER := hide hrow
        have EM := hide hms2
        clear e1 e2 e4 e3 hrow eB hms hmt hms2 lk1 lk2 k6 H
        have hrow2 := hide (ER.out.alloc (Obj.cells #[.int .i32 f] 21))
        go_wp2_with (at_builtin; go_must (refine wpList_append_own _ rfl (.tmp 19) (.tmp 21) 73 rfl w0.heap.size 21 i1 _ 1 4 Try.underlying73 hi1 iz1 is1 ib1 rfl (by decide) _ fr.length (fr.map fun (x : Nat) => enc3 x) rfl hrow2.out ⟨w1.heap.size, 0, none⟩ 1 1 [.int .i32 f] rfl rfl ?cells ?ones ?c63 ?cby ?cbase ?_))
        case cells =>
          intro j u hj
          match j, hj with
          | 0, hj => simp at hj; subst hj; simp [Addr.add, go_sem]
          | j + 1, hj => simp at hj
        case ones => simp [Value.oneCell']
        case c63 => unfold maxLen; omega
        case cby => omega
        case cbase => have := EB.out.size; simp; omega
        intro v' w2 hown' hgrow _
        obtain ⟨A4, C4, rfl⟩ := own_slice hown'
        obtain ⟨f3, V3⟩ := Vs.put E1.out E2.out E4.out E3.out ER.out EB.out HVV.out EM.out _ hown' hgrow
        have q4 := cell_heap (j := 0) f3 rfl
        have q4f : w2.frozen? ⟨b3, 0, none⟩ = false := frozen_heap f3
        have HV3 := hide V3
        clear V3 f3 hown' hgrow hrow2 E1 E2 E3 E4 EB ER EM HVV
        go_wp2_with fail
        generalize w2.setCell ⟨b3, 0, none⟩ (.slice A4 (fr.length + 1) C4) = w3 at *
        have H3 := HH0.out.below HV3.out.below
        have g4 : w3.drew.cell? ⟨b4, 0, none⟩ = some _ := cell_heap HV3.out.c4 rfl
        have g2 : w3.drew.cell? ⟨b2, 0, none⟩ = some (.pointer (some ⟨k.p, 0, none⟩)) := cell_heap HV3.out.c2 rfl
        have g5 := H3.drew.c2
        have g6 := (H3.drew.node hx).2.1
        have r0 : (f : Int) < s.nd.length := by omega
        go_still_tail 9, (by kernel_rfl)
        change wpList _ _ _ _ _ w3.drew
        have HV4 := hide HV3.out.drew
        generalize w3.drew = w4 at *
        clear g4 g2 g5 g6 H3 HV3
        go_wp2_with fail
        refine (HI1.out _ HV4.out).mono ?_
        rintro e w5 ⟨rfl, V5⟩
        have HV5 := hide V5
        clear V5 HV4
        go_wp2_with fail
        have H5 := HH0.out.below HV5.out.below
        have g4 : w5.drew.cell? ⟨b4, 0, none⟩ = some _ := cell_heap HV5.out.c4 rfl
        have g2 : w5.drew.cell? ⟨b2, 0, none⟩ = some (.pointer (some ⟨k.p, 0, none⟩)) := cell_heap HV5.out.c2 rfl
        have g5 := H5.drew.c2
        have g6 := (H5.drew.node hx).2.2
        go_still_tail 9, (by kernel_rfl)
        change wpList _ _ _ _ _ w5.drew
        have HV6 := hide HV5.out.drew
        generalize w5.drew = w6 at *
        clear g4 g2 g5 g6 H5 HV5
        go_wp2_with fail
        refine (HI2.out _ HV6.out).mono ?_
        rintro e w7 ⟨rfl, V7⟩
        have HV7 := hide V7
        clear V7 HV6
        go_wp2_with fail
        go_end0
        exact ⟨rfl, HV7.out⟩
end Go.Proofs.Ytgfjdkkfgclhjaa.Bd
/- cut: what becomes of a node when its variable has a value. -/
namespace Go.Proofs.Ytgfjdkkfgclhjaa.Bd
open Go.RowKit Go.Proofs.Ytgfjdkkfgclhjaa Go.Proofs.Ytgfjdkkfgclhjaa.Lx Go.Maps

set_option maxHeartbeats 1000000 in
set_option maxRecDepth 100000 in
theorem cut_any (k : Blk) (s : St) (f v : Nat) (b : Bool) (w : World) (hA : Ar w k s) (hf : f < s.nd.length) (hv : v < 2147483648) (hm : s.m + 2 ≤ 2147483648) :
    Calls Try.prog 35 #[.pointer (some ⟨k.p, 0, none⟩), .int .i32 f, .int .i32 v, .bool b] w fun e w' => e = .returned (.int .i32 (cut s.nd f v b)) ∧ Below w.heap.size w w' := by
  obtain ⟨fb, ft, H, I⟩ := hA
  obtain ⟨⟨a, lo, hi⟩, hx⟩ : ∃ x, s.nd[f]? = some x := ⟨_, List.getElem?_eq_getElem hf⟩
  obtain ⟨n0, n1, n2⟩ := H.node hx
  have c2 := H.c2
  have hfi : (f : Int) < s.nd.length := by omega
  have hcut : cut s.nd f v b = if a ≠ v then f else if b then hi else lo := by unfold cut; rw [hx]
  have hbl := hide (bel_one w (.cells #[.int .i32 a, .int .i32 lo, .int .i32 hi] 58))
  clear H I
  by_cases hav : a = v
  · have hd : ((a : Int) != v) = false := by rw [hav]; simp
    rw [if_neg (by simp [hav])] at hcut
    cases b
    · have HC := hide hcut
      clear hcut
      go_enter Try.func35, Try.ntmps35
      go_wp2_with fail
      go_ret
      refine ⟨?_, bel_one _ _⟩
      rw [HC.out]; rfl
    · have HC := hide hcut
      clear hcut
      go_enter Try.func35, Try.ntmps35
      go_wp2_with fail
      go_ret
      refine ⟨?_, bel_one _ _⟩
      rw [HC.out]; rfl
  · have hd : ((a : Int) != v) = true := by simp; omega
    rw [if_pos hav] at hcut
    have HC := hide hcut
    clear hcut
    go_enter Try.func35, Try.ntmps35
    go_wp2_with fail
    go_ret
    refine ⟨?_, bel_one _ _⟩
    rw [HC.out]
    rfl
end Go.Proofs.Ytgfjdkkfgclhjaa.Bd
/- ite: what it answers, in plain words. No program is in sight. -/
namespace Go.Proofs.Ytgfjdkkfgclhjaa.Bd

variable {nd : List Nd}
theorem Den.first {S : Nat → Bool} {i t : Nat} {F : Env → Bool} (h : Den S nd i t F) (ht : t < 256) : S t = true := by
  cases h with
  | zero => omega
  | one => omega
  | node h h2 hl hh hne h1 h3 hv hS dl dh => exact hS
theorem ite_one (hw : WF nd) {g h : Nat} : OkIte nd nd 1 g h g := by
  intro S tf tg th F G H d1 d2 d3
  obtain ⟨rfl, hF⟩ := d1.ends (by omega)
  refine ⟨tg, by omega, ?_⟩
  have e : (fun ρ => if F ρ then G ρ else H ρ) = G := by
    funext ρ
    rw [hF]
    simp
  rw [e]; exact d2
theorem ite_zero {g h : Nat} : OkIte nd nd 0 g h h := by
  intro S tf tg th F G H d1 d2 d3
  obtain ⟨rfl, hF⟩ := d1.ends (by omega)
  refine ⟨th, by omega, ?_⟩
  have e : (fun ρ => if F ρ then G ρ else H ρ) = H := by
    funext ρ
    rw [hF]
    simp
  rw [e]; exact d3
theorem ite_same {f g : Nat} : OkIte nd nd f g g g := by
  intro S tf tg th F G H d1 d2 d3
  obtain ⟨rfl, rfl⟩ := d2.det2 d3
  refine ⟨tg, by omega, ?_⟩
  have e : (fun ρ => if F ρ then G ρ else G ρ) = G := by funext ρ; simp
  rw [e]; exact d2
theorem ite_self {f : Nat} : OkIte nd nd f 1 0 f := by
  intro S tf tg th F G H d1 d2 d3
  obtain ⟨rfl, hG⟩ := d2.ends (by omega)
  obtain ⟨rfl, hH⟩ := d3.ends (by omega)
  have ht := d1.top.1
  refine ⟨tf, by omega, ?_⟩
  have e : (fun ρ => if F ρ then G ρ else H ρ) = F := by
    funext ρ
    rw [hG, hH]
    cases F ρ <;> simp
  rw [e]; exact d1
/-- the halves by v put together -/
theorem ite_halves {nd nd1 nd2 nd3 : List Nd} (hw : WF nd) {f g h lo hi r v tf0 tg0 th0 : Nat} {S0 : Nat → Bool} {F0 G0 H0 : Env → Bool} (d1 : Den S0 nd f tf0 F0) (d2 : Den S0 nd g tg0 G0) (d3 : Den S0 nd h th0 H0) (hv : v = min tf0 (min tg0 th0)) (hv2 : v < 256)
    (e1 : ∃ ex, nd1 = nd ++ ex) (e2 : ∃ ex, nd2 = nd1 ++ ex) (hlo : OkIte nd nd1 (cut nd f v false) (cut nd g v false) (cut nd h v false) lo) (hhi : OkIte nd1 nd2 (cut nd f v true) (cut nd g v true) (cut nd h v true) hi) (hmk : OkMk nd2 nd3 v lo hi r) : OkIte nd nd3 f g h r := by
  intro S tf tg th F G H c1 c2 c3
  obtain ⟨rfl, rfl⟩ := d1.det2 c1
  obtain ⟨rfl, rfl⟩ := d2.det2 c2
  obtain ⟨rfl, rfl⟩ := d3.det2 c3
  obtain ⟨ex1, rfl⟩ := e1
  obtain ⟨ex2, rfl⟩ := e2
  have hS : S v = true := by
    have : v = tf0 ∨ v = tg0 ∨ v = th0 := by omega
    rcases this with e | e | e
    · rw [e]; exact c1.first (by omega)
    · rw [e]; exact c2.first (by omega)
    · rw [e]; exact c3.first (by omega)
  obtain ⟨a1, ha1, q1⟩ := cut_den hw c1 (v := v) (by omega) hv2 false
  obtain ⟨a2, ha2, q2⟩ := cut_den hw c2 (v := v) (by omega) hv2 false
  obtain ⟨a3, ha3, q3⟩ := cut_den hw c3 (v := v) (by omega) hv2 false
  obtain ⟨b1, hb1, p1⟩ := cut_den hw c1 (v := v) (by omega) hv2 true
  obtain ⟨b2, hb2, p2⟩ := cut_den hw c2 (v := v) (by omega) hv2 true
  obtain ⟨b3, hb3, p3⟩ := cut_den hw c3 (v := v) (by omega) hv2 true
  obtain ⟨tl, _, dl⟩ := hlo S _ _ _ _ _ _ q1 q2 q3
  obtain ⟨tt, _, dh⟩ := hhi S _ _ _ _ _ _ p1.append p2.append p3.append
  obtain ⟨t, ht, d⟩ := hmk S _ _ _ _ hS dl.append dh
  refine ⟨t, by omega, ?_⟩
  have e : (fun ρ : Env => if ρ v then (if F0 (upd ρ v true) then G0 (upd ρ v true) else H0 (upd ρ v true)) else (if F0 (upd ρ v false) then G0 (upd ρ v false) else H0 (upd ρ v false))) = fun ρ => if F0 ρ then G0 ρ else H0 ρ := by
    funext ρ
    rw [shannon F0 v ρ, shannon G0 v ρ, shannon H0 v ρ]
    cases ρ v <;> simp
  rw [e] at d
  exact d
end Go.Proofs.Ytgfjdkkfgclhjaa.Bd
/- ite. -/
namespace Go.Proofs.Ytgfjdkkfgclhjaa.Bd
open Go.RowKit Go.Proofs.Ytgfjdkkfgclhjaa Go.Proofs.Ytgfjdkkfgclhjaa.Lx Go.Maps

def NodeOut (k : Blk) (s : St) (w : World) (room : Nat) (ok : List Nd → Nat → Prop) (e : Ending) (w' : World) : Prop :=
  ∃ k' s' r, e = .returned (.int .i32 (r : Nat)) ∧ Ar w' k' s' ∧ Turn k k' w w' ∧ Up s s' ∧ s'.m + 2 ≤ s.m + room ∧ ok s'.nd r
def IteAt (n : Nat) : Prop := ∀ (S : Nat → Bool) (k : Blk) (s : St) (f g h tf tg th : Nat) (F G H : Env → Bool) (w : World), 256 - min tf (min tg th) < n → Ar w k s → Den S s.nd f tf F → Den S s.nd g tg G → Den S s.nd h th H → s.m + 2 ^ (nS S (min tf (min tg th)) + 1) ≤ 1000000000 →
  Calls Try.prog 40 #[.pointer (some ⟨k.p, 0, none⟩), .int .i32 f, .int .i32 g, .int .i32 h] w (NodeOut k s w (2 ^ (nS S (min tf (min tg th)) + 1)) (fun nd' r => OkIte s.nd nd' f g h r))

theorem Ar.below {w w' : World} {k : Blk} {s : St} (h : Ar w k s) (hb : Below w.heap.size w w') : Ar w' k s := by
  obtain ⟨fb, ft, H, I⟩ := h
  exact ⟨fb, ft, H.below hb, I⟩
/-- the five boxes that a part looks into -/
def Boxes (w : World) (p f g h v : Nat) (X : Nat → Nat) : Prop := w.cell? ⟨X 0, 0, none⟩ = some (.pointer (some ⟨p, 0, none⟩)) ∧ w.cell? ⟨X 1, 0, none⟩ = some (.int .i32 f) ∧ w.cell? ⟨X 2, 0, none⟩ = some (.int .i32 v) ∧ w.cell? ⟨X 3, 0, none⟩ = some (.int .i32 g) ∧ w.cell? ⟨X 4, 0, none⟩ = some (.int .i32 h)
theorem Boxes.below {w w' : World} {p f g h v : Nat} {X : Nat → Nat} (hx : Boxes w p f g h v X) (hb : Below w.heap.size w w') : Boxes w' p f g h v X :=
  ⟨cellB hb hx.1, cellB hb hx.2.1, cellB hb hx.2.2.1, cellB hb hx.2.2.2.1, cellB hb hx.2.2.2.2⟩

set_option maxHeartbeats 4000000 in
set_option maxRecDepth 100000 in
theorem part_any (n : Nat) (hI : IteAt n) (S : Nat → Bool) (k : Blk) (s : St) (f g h tf tg th v : Nat) (F G H : Env → Bool) (b : Bool) (w : World) (X0 X1 X2 X3 X4 : Nat) (hA : Ar w k s) (d1 : Den S s.nd f tf F) (d2 : Den S s.nd g tg G) (d3 : Den S s.nd h th H) (hv : v = min tf (min tg th)) (hv2 : v < 256) (hn : 256 - v ≤ n)
    (hm : s.m + 2 ^ (nS S (v + 1) + 1) ≤ 1000000000)
    (x0 : w.cell? ⟨X0, 0, none⟩ = some (.pointer (some ⟨k.p, 0, none⟩))) (x1 : w.cell? ⟨X1, 0, none⟩ = some (.int .i32 f)) (x2 : w.cell? ⟨X2, 0, none⟩ = some (.int .i32 v)) (x3 : w.cell? ⟨X3, 0, none⟩ = some (.int .i32 g)) (x4 : w.cell? ⟨X4, 0, none⟩ = some (.int .i32 h)) (y0 : ¬ fp k X0) (y1 : ¬ fp k X1) (y2 : ¬ fp k X2) (y3 : ¬ fp k X3) (y4 : ¬ fp k X4) :
    Calls Try.prog 57 #[.bool b, .pointer (some ⟨X0, 0, none⟩), .pointer (some ⟨X1, 0, none⟩), .pointer (some ⟨X2, 0, none⟩), .pointer (some ⟨X3, 0, none⟩), .pointer (some ⟨X4, 0, none⟩)] w (NodeOut k s w (2 ^ (nS S (v + 1) + 1)) (fun nd' r => OkIte s.nd nd' (cut s.nd f v b) (cut s.nd g v b) (cut s.nd h v b) r)) := by
  have hW : WF s.nd := by obtain ⟨_, _, _, I⟩ := hA; exact I.wf
  have hpow : 2 ≤ 2 ^ (nS S (v + 1) + 1) := by have := Nat.one_le_two_pow (n := nS S (v + 1)); rw [Nat.pow_succ]; omega
  have hm0 : s.m + 2 ≤ 2147483648 := by omega
  have hC : ∀ {x t : Nat} {E : Env → Bool}, Den S s.nd x t E → Hid (∀ w', Below w.heap.size w w' → Calls Try.prog 35 #[.pointer (some ⟨k.p, 0, none⟩), .int .i32 x, .int .i32 v, .bool b] w' fun e w'' => e = .returned (.int .i32 (cut s.nd x v b)) ∧ Below w'.heap.size w' w'') := fun d w' hb => cut_any k s _ v b w' (hA.below hb) (d.lt hW) (by omega) hm0
  have C1 := hC d1
  have C2 := hC d2
  have C3 := hC d3
  clear hC
  have hi : Hid (∀ w', Below w.heap.size w w' → Calls Try.prog 40 #[.pointer (some ⟨k.p, 0, none⟩), .int .i32 (cut s.nd f v b), .int .i32 (cut s.nd g v b), .int .i32 (cut s.nd h v b)] w' (NodeOut k s w (2 ^ (nS S (v + 1) + 1)) (fun nd' r => OkIte s.nd nd' (cut s.nd f v b) (cut s.nd g v b) (cut s.nd h v b) r))) := by
    intro w' hb
    obtain ⟨a1, ha1, q1⟩ := cut_den hW d1 (v := v) (by omega) hv2 b
    obtain ⟨a2, ha2, q2⟩ := cut_den hW d2 (v := v) (by omega) hv2 b
    obtain ⟨a3, ha3, q3⟩ := cut_den hW d3 (v := v) (by omega) hv2 b
    have hle := nS_le S (v := v + 1) (v' := min a1 (min a2 a3)) (by omega)
    have hp : 2 ^ (nS S (min a1 (min a2 a3)) + 1) ≤ 2 ^ (nS S (v + 1) + 1) := Nat.pow_le_pow_right (by omega) (by omega)
    refine (hI S k s _ _ _ a1 a2 a3 _ _ _ w' (by omega) (hA.below hb) q1 q2 q3 (by omega)).mono ?_
    rintro e w'' ⟨k', s', r, he, hA', hT, hU, hr, ho⟩
    exact ⟨k', s', r, he, hA', (Turn.below hb).trans hT, hU, by omega, ho⟩
  have HB0 : Below w.heap.size w w.drew := (Below.refl w.heap.size w).drew
  generalize cut s.nd f v b = cf at *
  generalize cut s.nd g v b = cg at *
  generalize cut s.nd h v b = ch at *
  clear hA d1 d2 d3 hI hW hpow hm0 hm hv hn
  go_enter Try.func57, Try.ntmps57
  go_wp2_with fail
  go_region_held3 (fun w' => w'.cell? ⟨X0, 0, none⟩ = some (.pointer (some ⟨k.p, 0, none⟩)) ∧ w'.cell? ⟨X1, 0, none⟩ = some (.int .i32 f) ∧ w'.cell? ⟨X2, 0, none⟩ = some (.int .i32 v) ∧ w'.cell? ⟨X3, 0, none⟩ = some (.int .i32 g) ∧ w'.cell? ⟨X4, 0, none⟩ = some (.int .i32 h))
    (first | exact ⟨x0, x1, x2, x3, x4⟩ | exact ⟨HR.out.2.1.cell x0 y0, HR.out.2.1.cell x1 y1, HR.out.2.1.cell x2 y2, HR.out.2.1.cell x3 y3, HR.out.2.1.cell x4 y4⟩ | exact ⟨cellB (by assumption) x0, cellB (by assumption) x1, cellB (by assumption) x2, cellB (by assumption) x3, cellB (by assumption) x4⟩)
    (first
      | (go_at_call 35; (first | with_reducible refine (C1.out _ (by assumption)).mono ?_ | with_reducible refine (C2.out _ (by assumption)).mono ?_ | with_reducible refine (C3.out _ (by assumption)).mono ?_); rintro e w1 ⟨rfl, hb⟩; have hb2 := below_wide (w := w) (by assumption) hb; clear hb)
      | (go_at_call 40; with_reducible refine (hi.out _ (by assumption)).mono ?_; intro e w1 hh; unfold NodeOut at hh; obtain ⟨k', s', r, he, hR⟩ := hh; subst he; have HR := hide hR; clear hR))
  all_goals (
    go_wp2_with fail
    go_ret
    exact ⟨k', s', r, rfl, HR.out⟩)
end Go.Proofs.Ytgfjdkkfgclhjaa.Bd
/- give: an answer is handed out, if there is room. -/
namespace Go.Proofs.Ytgfjdkkfgclhjaa.Bd
open Go.RowKit Go.Proofs.Ytgfjdkkfgclhjaa Go.Proofs.Ytgfjdkkfgclhjaa.Lx Go.Maps

/-- the nodes beneath f that are not held yet -/
def fresh (s : St) (f : Nat) : List Nat := vis s.nd s.he (f + 1) [] f
def St.hold (s : St) (fr : List Nat) : St := { s with he := fun x => decide (0 ≤ x ∧ x.toNat ∈ fr) || s.he x, hn := s.hn + fr.length }
def St.give (s : St) (f : Nat) : St := { s.hold (fresh s f) with gi := fun x => decide (x = (f : Int)) || s.gi x, gn := s.gn + 1 }
def GiveOut (k : Blk) (s : St) (f : Nat) (w : World) (e : Ending) (w' : World) : Prop :=
  (s.ms < s.hn + (fresh s f).length ∧ e = .returned (.tuple #[.int .i64 0, .int .i64 3]) ∧ Ar w' k s ∧ Turn k k w w') ∨
  (s.hn + (fresh s f).length ≤ s.ms ∧ e = .returned (.tuple #[.int .i64 f, .int .i64 0]) ∧ Ar w' k (s.give f) ∧ Turn k k w w')
theorem hold_step {s : St} {fr : List Nat} {i x : Nat} (hx : fr[i]? = some x) : (fun y : Int => decide (y = (x : Int)) || (s.hold (fr.take i)).he y) = (s.hold (fr.take (i + 1))).he := by
  funext y
  unfold St.hold
  simp only
  rw [← Bool.or_assoc, ← Bool.decide_or]
  congr 2
  rw [List.take_add_one, hx]
  simp only [Option.toList_some, List.mem_append, List.mem_singleton, eq_iff_iff]
  constructor
  · rintro (h | ⟨h1, h2⟩)
    · subst h; exact ⟨by omega, .inr (by omega)⟩
    · exact ⟨h1, .inl h2⟩
  · rintro ⟨h1, h2 | h2⟩
    · exact .inr ⟨h1, h2⟩
    · left; omega
theorem hold_zero (s : St) : s.hold [] = s := by
  unfold St.hold
  have : (fun x : Int => decide (0 ≤ x ∧ x.toNat ∈ ([] : List Nat)) || s.he x) = s.he := by funext x; simp
  rw [this]
  rfl
theorem hold_new {s : St} {fr : List Nat} {i x : Nat} (hm : Met s.nd s.he fr) (hx : fr[i]? = some x) : (s.hold (fr.take i)).he x = false := by
  unfold St.hold
  simp only [Bool.or_eq_false_iff, decide_eq_false_iff_not, not_and]
  refine ⟨fun _ hin => ?_, (hm.all x (List.mem_of_getElem? hx)).2.2⟩
  simp only [Int.toNat_natCast] at hin
  obtain ⟨j, hj⟩ := List.mem_iff_getElem?.1 hin
  have hji : j < i := by
    rcases Nat.lt_or_ge j i with h | h
    · exact h
    · rw [List.getElem?_take, if_neg (by omega)] at hj; cases hj
  rw [List.getElem?_take, if_pos hji] at hj
  have hi := lt_of_some hx
  have := (List.pairwise_iff_getElem.1 hm.nodup) j i (by omega) hi hji
  rw [List.getElem?_eq_getElem (by omega)] at hj
  rw [List.getElem?_eq_getElem hi] at hx
  exact this (Option.some.inj (hj.trans hx.symm))
theorem hold_succ {s : St} {fr : List Nat} {i x : Nat} (hx : fr[i]? = some x) : { s.hold (fr.take i) with he := fun y : Int => decide (y = (x : Int)) || (s.hold (fr.take i)).he y, hn := (s.hold (fr.take i)).hn + 1 } = s.hold (fr.take (i + 1)) := by
  rw [hold_step hx]
  have hi := lt_of_some hx
  unfold St.hold
  simp only [List.length_take]
  congr 1
  omega
theorem Inv.hold {s : St} {fb ft : Nd → Option Int} (I : Inv s fb ft) {f : Nat} (hf : f < s.nd.length) : Inv (s.give f) fb ft := by
  refine ⟨I.by_, I.it, I.wf, I.nm, fun x hx => ?_⟩
  simp only [St.give, St.hold, Bool.or_eq_true, decide_eq_true_eq] at hx
  rcases hx with rfl | hx
  · exact ⟨f, rfl, hf⟩
  · exact I.gi x hx
theorem seen_start : (fun x : Int => decide (x = 1) || (decide (x = 0) || false)) = seenB [] := by
  funext x
  unfold seenB
  rw [Bool.or_false, ← Bool.decide_or]
  congr 1
  simp only [List.not_mem_nil, or_false, eq_iff_iff]
  omega

theorem vs_start {w w1 w2 : World} {p : Nat} (ht1 : World.mapTurned (((w.alloc (.cells #[.pointer (some ⟨p, 0, none⟩)] 24)).alloc (.cells #[.slice none 0 0] 73)).alloc (.map #[] 0)) w1 (w.heap.size + 2)) (ht2 : w1.mapTurned w2 (w.heap.size + 2))
    (hm : MSet Try.prog w2 21 4 (w.heap.size + 2) 2 2 enc3 fun x => decide (x = 1) || decide (x = 0)) :
    Vs w ((w2.alloc (.cells #[.map (some (w.heap.size + 2))] 63)).alloc (.cells #[(.func (.func 55) #[] #[.pointer (some ⟨w2.heap.size, 0, none⟩), .pointer (some ⟨w.heap.size, 0, none⟩), .pointer (some ⟨w.heap.size + 1, 0, none⟩), .pointer (some ⟨w2.heap.size + 1, 0, none⟩)])] 87))
      p w2.heap.size w.heap.size (w.heap.size + 1) (w2.heap.size + 1) (w.heap.size + 2) [] := by
  have hg := (ht1.trans ht2).grown
  have hs := hg.size
  simp only [World.size_alloc] at hs
  have c2 : w2.heap[w.heap.size]? = some (.cells #[.pointer (some ⟨p, 0, none⟩)] 24 (0, 0)) := heap_grown (heap_old (heap_old (heap_new _ _))) hg (opt_ne (by omega))
  have c3 : w2.heap[w.heap.size + 1]? = some (.cells #[.slice none 0 0] 73 (0, 0)) := by
    have := heap_new (w.alloc (.cells #[.pointer (some ⟨p, 0, none⟩)] 24)) (.cells #[.slice none 0 0] 73)
    rw [show (w.alloc (.cells #[.pointer (some ⟨p, 0, none⟩)] 24)).heap.size = w.heap.size + 1 by simp] at this
    exact heap_grown (heap_old this) hg (opt_ne (by omega))
  have hb : Below w.heap.size w w2 := ((((Below.refl _ w).alloc (Nat.le_refl _) _).alloc (by simp) _).alloc (by simp; omega) _).grown hg (by simp; omega) (fun b e => by injection e with e; omega)
  have c1 : (w2.alloc (.cells #[.map (some (w.heap.size + 2))] 63)).heap[w2.heap.size]? = some (.cells #[.map (some (w.heap.size + 2))] 63 (0, 0)) := heap_new _ _
  have c4 : ((w2.alloc (.cells #[.map (some (w.heap.size + 2))] 63)).alloc (.cells #[(.func (.func 55) #[] #[.pointer (some ⟨w2.heap.size, 0, none⟩), .pointer (some ⟨w.heap.size, 0, none⟩), .pointer (some ⟨w.heap.size + 1, 0, none⟩), .pointer (some ⟨w2.heap.size + 1, 0, none⟩)])] 87)).heap[w2.heap.size + 1]? = some (.cells #[(.func (.func 55) #[] #[.pointer (some ⟨w2.heap.size, 0, none⟩), .pointer (some ⟨w.heap.size, 0, none⟩), .pointer (some ⟨w.heap.size + 1, 0, none⟩), .pointer (some ⟨w2.heap.size + 1, 0, none⟩)])] 87 (0, 0)) := by
    have := heap_new (w2.alloc (.cells #[.map (some (w.heap.size + 2))] 63)) (.cells #[(.func (.func 55) #[] #[.pointer (some ⟨w2.heap.size, 0, none⟩), .pointer (some ⟨w.heap.size, 0, none⟩), .pointer (some ⟨w.heap.size + 1, 0, none⟩), .pointer (some ⟨w2.heap.size + 1, 0, none⟩)])] 87)
    rw [show (w2.alloc (.cells #[.map (some (w.heap.size + 2))] 63)).heap.size = w2.heap.size + 1 by simp] at this
    exact this
  refine ⟨heap_old c1, heap_old (heap_old c2), c4, ?_, ⟨.slice none 0 0, heap_old (heap_old c3), ⟨rfl, .inl ⟨rfl, rfl⟩⟩⟩, ?_, by omega, by omega, by omega, by omega, by omega⟩
  · have e : (fun x : Int => decide (x = 1) || decide (x = 0)) = seenB [] := by rw [← seen_start]; funext x; simp
    rw [e] at hm
    exact (hm.kept (World.grownBy_alloc _ _ none) (by simp)).kept (World.grownBy_alloc _ _ none) (by simp)
  · exact (hb.alloc (by omega) _).alloc (by simp; omega) _

set_option maxHeartbeats 4000000 in
set_option maxRecDepth 100000 in
theorem give_any (k : Blk) (s : St) (f : Nat) (w : World) (hA : Ar w k s) (hf : f < s.nd.length) (hm : s.m + 2 ≤ 1000000000) (hms : s.ms ≤ 4194304) (hgn : s.gn ≤ 1000000000) (hhn : s.hn ≤ 4194304) :
    Calls Try.prog 37 #[.pointer (some ⟨k.p, 0, none⟩), .int .i32 f] w (GiveOut k s f w) := by
  have HA := hide hA
  obtain ⟨fb, ft, H, I⟩ := hA
  have hW := I.wf
  have hnm := I.nm
  have HM := hide (vis_met hW (f + 1) [] f hf (Met.nil s.nd s.he))
  have HMS := hide (MSet.made (P := Try.prog) ((w.alloc (.cells #[.pointer (some ⟨k.p, 0, none⟩)] 24)).alloc (.cells #[.slice none 0 0] 73)) 21 4 enc3)
  have hsz : ((w.alloc (.cells #[.pointer (some ⟨k.p, 0, none⟩)] 24)).alloc (.cells #[.slice none 0 0] 73)).heap.size = w.heap.size + 2 := by simp
  rw [hsz] at HMS
  have hmm := @run_makeMap Try.prog
  go_enter Try.func37, Try.ntmps37
  go_wp2_with (refine wpList_ins rfl (.tmp 11) _ _ rfl HMS.out keyed3 Try.underlying63 Try.underlying4 (by unfold maxLen; omega) enc3_inj rfl (0 : Int) _ rfl (key3 0 (by omega) (by omega)) rfl ?_)
  intro w1 hm1 ht1
  have HM1 := hide hm1
  have HT1 := hide ht1
  clear hm1 ht1
  go_wp2_with (refine wpList_ins rfl (.tmp 11) _ _ rfl HM1.out keyed3 Try.underlying63 Try.underlying4 (by unfold maxLen; omega) enc3_inj rfl (1 : Int) _ rfl (key3 1 (by omega) (by omega)) rfl ?_)
  intro w2 hm2 ht2
  have HM2 := hide hm2
  have HT2 := hide ht2
  clear hm2 ht2
  have HV := hide (vs_start HT1.out HT2.out HM2.out)
  go_wp2_with fail
  refine (visit_any k s w HA.out (by omega) _ _ _ _ _ (f + 1) f [] _ (by omega) hf (Met.nil _ _) HV.out).mono ?_
  rintro e w5 ⟨rfl, V5⟩
  have HV5 := hide V5
  have HSZ := hide HV.out.below.size
  clear V5 HV HT1 HT2 HM1 HM2 HMS hsz hmm
  generalize hfr : vis s.nd s.he (f + 1) [] f = fr at *
  have hfr2 : fresh s f = fr := hfr
  go_wp2_with fail
  have H5 := H.below HV5.out.below
  obtain ⟨vr, e3, hrow⟩ := HV5.out.row
  obtain ⟨A, C, rfl⟩ := own_slice hrow
  have u0 : ∀ x, (lat w5 x).cell? ⟨w.heap.size, 0, none⟩ = some (.pointer (some ⟨k.p, 0, none⟩)) := lat_cell (cell_heap HV5.out.c2 rfl)
  have u3 : ∀ x, (lat w5 x).cell? ⟨w.heap.size + 1, 0, none⟩ = some (.slice A fr.length C) := lat_cell (cell_heap e3 rfl)
  have u6 := lat_cell H5.c6
  have u1 := lat_cell H5.c1
  have ul : ∀ x ty, (Builtin.len_ #[63] ty #[.map (some k.he)]).run Try.prog (lat w5 x) = .ok (.int .i64 s.hn) (lat w5 x) := fun x ty => (H5.below (lat_below w5 x)).he.len Try.underlying63 ty
  have hfl := HM.out.len
  have HR := hide hrow
  have HE3 := hide e3
  have HH := hide H
  have HI := hide I
  have HH5 := hide H5
  clear hrow e3 H H5 I
  have hlen : fr.length ≤ 1000000000 := by omega
  rcases Nat.lt_or_ge s.ms (s.hn + fr.length) with hlt | hge
  · have d1 : decide ((s.ms : Int) < (s.hn : Int) + fr.length) = true := by simp; omega
    refine wp_region_lat (by kernel_rfl) (by kernel_rfl) ?_
    repeat (first | go_big_quiet_step ((fail)) | quiet_step ((fail)))
    refine wpQuiet_nil ?_
    intro _ hlat
    obtain ⟨wq, rfl⟩ := hlat
    go_wp2_with fail
    go_ret2
    exact .inl ⟨by rw [hfr2]; exact hlt, rfl, HA.out.below (below_wide HV5.out.below (lat_below w5 wq)), Turn.below (below_wide HV5.out.below (lat_below w5 wq))⟩
  · have d1 : decide ((s.ms : Int) < (s.hn : Int) + fr.length) = false := by simp; omega
    refine wp_region_lat (by kernel_rfl) (by kernel_rfl) ?_
    repeat (first | go_big_quiet_step ((fail)) | quiet_step ((fail)))
    refine wpQuiet_nil ?_
    intro _ hlat
    obtain ⟨wq, rfl⟩ := hlat
    have x2 := hide (heapB (lat_below w5 wq) HV5.out.c2)
    have x3 := hide (heapB (lat_below w5 wq) HE3.out)
    have xr := hide (own_below HR.out (lat_below w5 wq))
    have xh := hide (HH5.out.below (lat_below w5 wq))
    have xb := hide (below_wide HV5.out.below (lat_below w5 wq))
    clear u0 u3 u6 u1 ul HV5 HE3 HR HH5
    generalize lat w5 wq = w6 at *
    have u3 : w6.cell? ⟨w.heap.size + 1, 0, none⟩ = some (.slice A fr.length C) := cell_heap x3.out rfl
    have HN := hide hnm
    go_wp2_with fail
    go_loopw [10, 32] (fun _ j wr => ∃ i : Nat, j = .int .i64 i ∧ i ≤ fr.length ∧ Hp wr k (s.hold (fr.take i)) fb ft ∧ Turn k k w wr ∧ wr.heap[w.heap.size]? = some (.cells #[.pointer (some ⟨k.p, 0, none⟩)] 24 (0, 0)) ∧ wr.ownsRow w.heap.size 21 1 (.slice A fr.length C) fr.length (fr.map fun (x : Nat) => enc3 x)) (fun _ j _ => fr.length - (intOf j).toNat)
    case atStart => exact ⟨0, rfl, Nat.zero_le _, by rw [List.take_zero, hold_zero]; exact xh.out, Turn.below xb.out, x2.out, xr.out⟩
    case round =>
      obtain ⟨i, rfl, hi, hHp, hT, hbx, hrow⟩ := hrel
      rcases Nat.lt_or_ge i fr.length with hlt | hge2
      · obtain ⟨x, hx⟩ : ∃ x, fr[i]? = some x := ⟨_, List.getElem?_eq_getElem hlt⟩
        have d2 : decide (i < fr.length) = true := by simpa using hlt
        have d3 : (i : Int) < fr.length := by omega
        obtain ⟨g, rfl⟩ : ∃ g, A = some ⟨g, 0, none⟩ := by
          rcases hrow.2 with ⟨h1, h2⟩ | ⟨g, cap, cur, h1, _⟩
          · omega
          · injection h1 with h1 _ _; exact ⟨g, h1⟩
        have hc : wr.cell? ⟨g, i, none⟩ = some (.int .i32 x) := by
          rw [hrow.cellAt i (by omega), List.getElem?_map, hx]; rfl
        have hbc := cell_heap (j := 0) hbx rfl
        have hc6 := hHp.c6
        have hxl := HM.out.all x (List.mem_of_getElem? hx)
        have hxn := HN.out
        have hnew := hold_new HM.out hx
        have hk3 := key3 (x : Int) (by omega) (by omega)
        have hmx : (s.hold (fr.take i)).hn < maxLen := by
          unfold St.hold maxLen
          simp only [List.length_take]
          omega
        have HHp := hide hHp
        have HTT := hide hT
        have HBX := hide hbx
        have HRW := hide hrow
        clear hHp hT hbx hrow hxl hxn
        go_wp2_with (at_mapUpdate; go_must (refine wpList_add rfl (.tmp 39) (.tmp 40) _ rfl HHp.out.he keyed3 Try.underlying63 Try.underlying4 hmx enc3_inj rfl (x : Int) _ rfl hk3 rfl ?_))
        intro w7 hm7 ht7
        obtain ⟨H7, T7⟩ := HHp.out.hePut hm7 ht7
        rw [hold_succ hx] at H7
        have HH7 := hide H7
        have HT7 := hide (HTT.out.trans T7)
        have HB7 := hide (heap_grown HBX.out ht7.grown (opt_ne (fun e => by have := HH.out.lt k.he (by simp [fp]); omega)))
        have HR7 := hide (own_kept HRW.out ht7.grown (fun g' e1 e2 => by
          injection e1 with e1
          have := HH.out.lt k.he (by simp [fp])
          have := (HRW.out.lt _ e2).1
          omega))
        clear hm7 ht7 H7 T7
        go_wp2_with fail
        go_roundw
        case rel => exact ⟨i + 1, by go_num, by omega, HH7.out, HT7.out, HB7.out, HR7.out⟩
        case measure => simp [intOf]; omega
      · have e : i = fr.length := by omega
        have d2 : decide (i < fr.length) = false := by simp; omega
        subst e
        rw [List.take_length] at hHp
        obtain ⟨N, HG⟩ := hHp.gi
        have hbc := cell_heap (j := 0) hbx rfl
        have hc5 := hHp.c5
        have hxn := HN.out
        have hkI := keyI (f : Int) (by omega) (by omega)
        have hmx : (s.hold fr).gn < maxLen := by
          unfold St.hold maxLen
          simp only
          omega
        have HHp := hide hHp
        have HTT := hide hT
        clear hHp hT hbx hrow hxn
        cases hgf : (s.hold fr).gi (f : Int)
        all_goals (
          go_wp2_with (at_mapUpdate; go_must (refine wpList_add rfl (.tmp 45) (.tmp 47) _ rfl HG keyedI Try.underlying62 Try.underlying4 hmx encI_inj rfl (f : Int) _ rfl hkI rfl ?_))
          intro w8 hm8 ht8
          obtain ⟨H8, T8⟩ := HHp.out.giPut hm8 ht8
          have HX := hide (show GiveOut k s f w (.returned (.tuple #[.int .i64 f, .int .i64 0])) w8 from
            .inr ⟨by rw [hfr2]; exact hge, rfl, ⟨fb, ft, by unfold St.give; rw [hfr2]; exact H8, HI.out.hold hf⟩, HTT.out.trans T8⟩)
          clear hm8 ht8 H8 T8 HG
          go_wp2_with fail
          go_ret2
          exact HX.out)
end Go.Proofs.Ytgfjdkkfgclhjaa.Bd
/- New. -/
namespace Go.Proofs.Ytgfjdkkfgclhjaa.Bd
open Go.RowKit Go.Proofs.Ytgfjdkkfgclhjaa Go.Proofs.Ytgfjdkkfgclhjaa.Lx Go.Maps

def ends : List Nd := [(256, 0, 0), (256, 0, 0)]
def St.new (vs ms : Nat) : St := ⟨vs, ms, ends, fun x => decide (x = 1) || decide (x = 0), 2, fun _ => false, 0, 0⟩
theorem ends_get {i : Nat} {x : Nd} (h : ends[i]? = some x) : i < 2 := by simpa [ends] using lt_of_some h
theorem ends_wf : WF ends := ⟨rfl, rfl, fun i j x hi hj gi gj => by have := ends_get gi; omega, fun i hi => by
  have : i < 2 := by simpa [ends] using hi
  rcases (by omega : i = 0 ∨ i = 1) with rfl | rfl
  · exact ⟨256, _, .zero⟩
  · exact ⟨256, _, .one⟩⟩
theorem new_inv (vs ms : Nat) : Inv (St.new vs ms) (fun _ => none) (fun _ => none) := by
  refine ⟨⟨?_, ?_⟩, ?_, ends_wf, by simp [St.new, ends], fun x hx => ?_⟩
  · intro x c h; cases h
  · intro i x h2 h
    have := ends_get (show ends[i]? = some x from h)
    omega
  · intro a b c i h; cases h
  · simp only [St.new, Bool.or_eq_true, decide_eq_true_eq] at hx
    rcases hx with rfl | rfl
    · exact ⟨1, rfl, by simp [St.new, ends]⟩
    · exact ⟨0, rfl, by simp [St.new, ends]⟩
/-- an arena of one's own -/
def Own (w w' : World) (k : Blk) (s : St) : Prop := Ar w' k s ∧ Below w.heap.size w w' ∧ ∀ i, fp k i → w.heap.size ≤ i

theorem new_start {w w1 w2 : World} {vs ms : Nat} (ht1 : World.mapTurned ((((w.alloc (.cells #[.int .i32 256, .int .i32 0, .int .i32 0, .int .i32 256, .int .i32 0, .int .i32 0] 58)).alloc (.map #[] 0)).alloc (.map #[] 0)).alloc (.map #[] 0)) w1 (w.heap.size + 3)) (ht2 : w1.mapTurned w2 (w.heap.size + 3))
    (hm : MSet Try.prog w2 3 4 (w.heap.size + 3) 2 2 encI fun x => decide (x = 1) || decide (x = 0)) :
    Own w ((w2.alloc (.map #[] 0)).alloc (.cells #[.int .i64 vs, .int .i64 ms, .slice (some ⟨w.heap.size, 0, none⟩) 2 2, .map (some (w.heap.size + 1)), .map (some (w.heap.size + 1 + 1)), .map (some (w.heap.size + 3)), .map (some w2.heap.size)] 65))
      ⟨w2.heap.size + 1, w.heap.size, 2, w.heap.size + 1, w.heap.size + 1 + 1, w.heap.size + 3, w2.heap.size⟩ (St.new vs ms) := by
  have hg := (ht1.trans ht2).grown
  have hs := hg.size
  simp only [World.size_alloc] at hs
  have hb : Below w.heap.size w w2 := (((((Below.refl _ w).alloc (Nat.le_refl _) _).alloc (by simp) _).alloc (by simp; omega) _).alloc (by simp; omega) _).grown hg (by simp; omega) (fun b e => by injection e with e; omega)
  have c0 : w2.heap[w.heap.size]? = some (.cells #[.int .i32 256, .int .i32 0, .int .i32 0, .int .i32 256, .int .i32 0, .int .i32 0] 58 (0, 0)) := heap_grown (heap_old (heap_old (heap_old (heap_new _ _)))) hg (opt_ne (by omega))
  have s1 : (w.alloc (.cells #[.int .i32 256, .int .i32 0, .int .i32 0, .int .i32 256, .int .i32 0, .int .i32 0] 58)).heap.size = w.heap.size + 1 := by simp
  have s2 : ((w.alloc (.cells #[.int .i32 256, .int .i32 0, .int .i32 0, .int .i32 256, .int .i32 0, .int .i32 0] 58)).alloc (.map #[] 0)).heap.size = w.heap.size + 1 + 1 := by simp
  have m1 := MInt.made (P := Try.prog) (w.alloc (.cells #[.int .i32 256, .int .i32 0, .int .i32 0, .int .i32 256, .int .i32 0, .int .i32 0] 58)) 58 21 .i32 encN
  have m2 := MInt.made (P := Try.prog) ((w.alloc (.cells #[.int .i32 256, .int .i32 0, .int .i32 0, .int .i32 256, .int .i32 0, .int .i32 0] 58)).alloc (.map #[] 0)) 93 21 .i32 encN
  have m4 := MSet.made (P := Try.prog) w2 21 4 enc3
  rw [s1] at m1
  rw [s2] at m2
  have k1 := ((m1.kept (World.grownBy_alloc _ (.map #[] 0) none) (by simp)).kept (World.grownBy_alloc _ (.map #[] 0) none) (by simp)).kept hg (opt_ne (by omega))
  have k2 := (m2.kept (World.grownBy_alloc _ (.map #[] 0) none) (by simp)).kept hg (opt_ne (by omega))
  refine ⟨⟨_, _, ⟨?_, ?_, ?_, ?_, ?_, ?_, by simp, by simp, by simp only; omega, by simp, by simp only; omega, by simp only; omega⟩, new_inv vs ms⟩, ?_, ?_⟩
  · have := heap_new (w2.alloc (.map #[] 0)) (.cells #[.int .i64 vs, .int .i64 ms, .slice (some ⟨w.heap.size, 0, none⟩) 2 2, .map (some (w.heap.size + 1)), .map (some (w.heap.size + 1 + 1)), .map (some (w.heap.size + 3)), .map (some w2.heap.size)] 65)
    rw [show (w2.alloc (.map #[] 0)).heap.size = w2.heap.size + 1 by simp] at this
    exact this
  · exact ⟨rfl, .inr ⟨w.heap.size, 2, _, rfl, Nat.zero_le _, heap_old (heap_old c0), Nat.le_refl _, by unfold maxLen; omega, rfl, rfl⟩⟩
  · exact (k1.kept (World.grownBy_alloc _ (.map #[] 0) none) (by simp)).kept (World.grownBy_alloc _ _ none) (by simp)
  · exact (k2.kept (World.grownBy_alloc _ (.map #[] 0) none) (by simp)).kept (World.grownBy_alloc _ _ none) (by simp)
  · exact ⟨2, (hm.kept (World.grownBy_alloc _ (.map #[] 0) none) (by simp)).kept (World.grownBy_alloc _ _ none) (by simp)⟩
  · exact m4.kept (World.grownBy_alloc _ _ none) (by simp)
  · exact (hb.alloc (by omega) _).alloc (by simp; omega) _
  · rintro i (h | h | h | h | h | h) <;> simp only at h <;> omega

set_option maxHeartbeats 2000000 in
set_option maxRecDepth 100000 in
theorem new_any (vs ms : Nat) (w : World) (h1 : vs ≤ 256) (h2 : ms ≤ 4194304) : Calls Try.prog 7 #[.int .i64 vs, .int .i64 ms] w fun e w' => ∃ k, e = .returned (.tuple #[.pointer (some ⟨k.p, 0, none⟩), .int .i64 0]) ∧ Own w w' k (St.new vs ms) := by
  have d1 : decide ((vs : Int) < 0) = false := by simp
  have d2 : decide ((256 : Int) < vs) = false := by simp; omega
  have d3 : decide ((ms : Int) < 0) = false := by simp
  have d4 : decide ((4194304 : Int) < ms) = false := by simp; omega
  have hmm := @run_makeMap Try.prog
  have HMS := hide (MSet.made (P := Try.prog) ((((w.alloc (.cells #[.int .i32 256, .int .i32 0, .int .i32 0, .int .i32 256, .int .i32 0, .int .i32 0] 58)).alloc (.map #[] 0)).alloc (.map #[] 0))) 3 4 encI)
  have hsz : ((((w.alloc (.cells #[.int .i32 256, .int .i32 0, .int .i32 0, .int .i32 256, .int .i32 0, .int .i32 0] 58)).alloc (.map #[] 0)).alloc (.map #[] 0))).heap.size = w.heap.size + 3 := by simp
  rw [hsz] at HMS
  go_enter Try.func7, Try.ntmps7
  go_wp2_with (refine wpList_ins rfl (.tmp 29) _ _ rfl HMS.out keyedI Try.underlying62 Try.underlying4 (by unfold maxLen; omega) encI_inj rfl (0 : Int) _ rfl (keyI 0 (by omega) (by omega)) rfl ?_)
  intro w1 hm1 ht1
  have HM1 := hide hm1
  have HT1 := hide ht1
  clear hm1 ht1
  go_wp2_with (refine wpList_ins rfl (.tmp 29) _ _ rfl HM1.out keyedI Try.underlying62 Try.underlying4 (by unfold maxLen; omega) encI_inj rfl (1 : Int) _ rfl (keyI 1 (by omega) (by omega)) rfl ?_)
  intro w2 hm2 ht2
  have HM2 := hide hm2
  have HT2 := hide ht2
  clear hm2 ht2
  go_wp2_with fail
  have HO := hide (new_start (vs := vs) (ms := ms) HT1.out HT2.out HM2.out)
  go_ret2
  exact ⟨_, rfl, HO.out⟩
theorem new_bad (vs ms : Int) (w : World) (h : vs < 0 ∨ 256 < vs ∨ 4194304 < ms) (h0 : 0 ≤ ms) : Calls Try.prog 7 #[.int .i64 vs, .int .i64 ms] w fun e w' => e = .returned (.tuple #[.pointer none, .int .i64 1]) ∧ w' = w := by
  cases d1 : decide (vs < 0)
  · cases d2 : decide ((256 : Int) < vs)
    · have d3 : decide (ms < 0) = false := by simp; omega
      have d4 : decide ((4194304 : Int) < ms) = true := by
        have := of_decide_eq_false d1
        have := of_decide_eq_false d2
        simp; omega
      go_enter Try.func7, Try.ntmps7
      go_wp2_with fail
      go_ret2
      exact ⟨rfl, rfl⟩
    · go_enter Try.func7, Try.ntmps7
      go_wp2_with fail
      go_ret2
      exact ⟨rfl, rfl⟩
  · go_enter Try.func7, Try.ntmps7
    go_wp2_with fail
    go_ret2
    exact ⟨rfl, rfl⟩
end Go.Proofs.Ytgfjdkkfgclhjaa.Bd
/- check: are numbers nodes that were given out? -/
namespace Go.Proofs.Ytgfjdkkfgclhjaa.Bd
open Go.RowKit Go.Proofs.Ytgfjdkkfgclhjaa Go.Proofs.Ytgfjdkkfgclhjaa.Lx Go.Maps

theorem check_nil (v : Value) (w : World) : Calls Try.prog 28 #[.pointer none, v] w fun e w' => e = .returned (.int .i64 2) ∧ w' = w := by
  go_enter Try.func28, Try.ntmps28
  go_wp2_with fail
  go_ret
  exact ⟨rfl, rfl⟩
def gvn (s : St) (l : List Int) : Int := if l.all s.gi then 0 else 1
theorem gvn_no {s : St} {l : List Int} {x : Int} (hx : x ∈ l) (h : s.gi x = false) : gvn s l = 1 := by
  unfold gvn
  rw [if_neg]
  intro ha
  have := List.all_eq_true.1 ha x hx
  rw [h] at this
  cases this
theorem gvn_all {s : St} {l : List Int} (h : ∀ x ∈ l, s.gi x = true) : gvn s l = 0 := by
  unfold gvn
  rw [if_pos (List.all_eq_true.2 h)]

set_option maxHeartbeats 1000000 in
set_option maxRecDepth 100000 in
theorem check_any (k : Blk) (s : St) (l : List Int) (Q : Nat) (w : World) (hA : Ar w k s) (hl : ∀ (j : Nat) (x : Int), l[j]? = some x → w.cell? ⟨Q, j, none⟩ = some (.int .i64 x)) (hr : ∀ x ∈ l, -9223372036854775808 ≤ x ∧ x < 9223372036854775808) (hn : l.length < 1000) :
    Calls Try.prog 28 #[.pointer (some ⟨k.p, 0, none⟩), .slice (some ⟨Q, 0, none⟩) l.length l.length] w fun e w' => e = .returned (.int .i64 (gvn s l)) ∧ w' = w := by
  obtain ⟨fb, ft, H, I⟩ := hA
  obtain ⟨N, HG⟩ := H.gi
  have c5 := H.c5
  have HL := hide hl
  have HR := hide hr
  clear hl hr
  go_enter Try.func28, Try.ntmps28
  go_wp2_with fail
  go_loop [6, 11] (fun _ j => ∃ i : Nat, j = .int .i64 i ∧ i ≤ l.length ∧ ∀ x ∈ l.take i, s.gi x = true) (fun _ j => l.length - (intOf j).toNat)
  case atStart => exact ⟨0, rfl, Nat.zero_le _, by simp⟩
  case round =>
    obtain ⟨i, rfl, hi, hall⟩ := hrel
    rcases Nat.lt_or_ge i l.length with hlt | hge
    · obtain ⟨x, hx⟩ : ∃ x, l[i]? = some x := ⟨_, List.getElem?_eq_getElem hlt⟩
      have d1 : decide (i < l.length) = true := by simpa using hlt
      have d2 : ((i : Int) < l.length) := by omega
      have hc := HL.out i x hx
      have hxr := HR.out x (List.mem_of_getElem? hx)
      have lk : (Instr.lookup 62 (.map (some k.gi)) (.int .i64 x) false).run Try.prog w = .ok (.bool (s.gi x)) w := HG.look keyedI Try.underlying62 Try.underlying4 (zeroB _) (keyI x hxr.1 hxr.2)
      cases hg : s.gi x with
      | false =>
        rw [hg] at lk
        have HV := hide (gvn_no (List.mem_of_getElem? hx) hg)
        clear H I HG
        go_wp2_with fail
        go_ret
        exact ⟨by rw [HV.out]; rfl, rfl⟩
      | true =>
        rw [hg] at lk
        have HV : Hid (∀ y ∈ l.take (i + 1), s.gi y = true) := by
          intro y hy
          rw [List.take_add_one, hx] at hy
          rcases List.mem_append.1 hy with h | h
          · exact hall y h
          · have : y = x := by simpa using h
            rw [this]; exact hg
        clear H I HG hall
        go_wp2_with fail
        go_round
        case rel => exact ⟨i + 1, by go_num, by omega, HV.out⟩
        case measure => simp [intOf]; omega
    · have e : i = l.length := by omega
      have d1 : decide (i < l.length) = false := by simp; omega
      subst e
      have HV := hide (gvn_all (s := s) (l := l) (by simpa using hall))
      clear H I HG hall
      go_wp2_with fail
      go_ret
      exact ⟨by rw [HV.out]; rfl, rfl⟩
end Go.Proofs.Ytgfjdkkfgclhjaa.Bd
/- ite, whole. -/
namespace Go.Proofs.Ytgfjdkkfgclhjaa.Bd
open Go.RowKit Go.Proofs.Ytgfjdkkfgclhjaa Go.Proofs.Ytgfjdkkfgclhjaa.Lx Go.Maps

theorem Den.head {S : Nat → Bool} {nd : List Nd} {i t : Nat} {F : Env → Bool} (hw : WF nd) (h : Den S nd i t F) : ∃ lo hi, nd[i]? = some (t, lo, hi) := by
  cases h with
  | zero => exact ⟨_, _, hw.e0⟩
  | one => exact ⟨_, _, hw.e1⟩
  | node h h2 hl hh hne h1 h3 hv hS dl dh => exact ⟨_, _, h⟩
theorem box4 (w : World) (a b c d : Value) (ta tb tc td : TypeId) : Below w.heap.size w ((((w.alloc (.cells #[a] ta)).alloc (.cells #[b] tb)).alloc (.cells #[c] tc)).alloc (.cells #[d] td)) :=
  ((((Below.refl _ w).alloc (Nat.le_refl _) _).alloc (by simp) _).alloc (by simp; omega) _).alloc (by simp; omega) _
theorem box5 (w : World) (a b c d e1 e2 e3 : Value) (ta tb tc td te : TypeId) (W : World) (hW : W = ((((w.alloc (.cells #[a] ta)).alloc (.cells #[b] tb)).alloc (.cells #[c] tc)).alloc (.cells #[d] td)).alloc (.cells #[e1, e2, e3] te)) :
    Below w.heap.size w W ∧ W.heap[w.heap.size]? = some (.cells #[a] ta (0, 0)) ∧ W.heap[w.heap.size + 1]? = some (.cells #[b] tb (0, 0)) ∧ W.heap[w.heap.size + 1 + 1]? = some (.cells #[c] tc (0, 0)) ∧ W.heap[w.heap.size + 1 + 1 + 1]? = some (.cells #[d] td (0, 0)) ∧ W.heap[w.heap.size + 4]? = some (.cells #[e1, e2, e3] te (0, 0)) ∧ W.heap.size = w.heap.size + 5 := by
  subst hW
  refine ⟨(box4 w a b c d ta tb tc td).alloc (by simp; omega) _, ?_, ?_, ?_, ?_, ?_, by simp⟩
  · exact heap_old (heap_old (heap_old (heap_old (heap_new _ _))))
  · have := heap_new (w.alloc (.cells #[a] ta)) (.cells #[b] tb)
    rw [show (w.alloc (.cells #[a] ta)).heap.size = w.heap.size + 1 by simp] at this
    exact heap_old (heap_old (heap_old this))
  · have := heap_new ((w.alloc (.cells #[a] ta)).alloc (.cells #[b] tb)) (.cells #[c] tc)
    rw [show ((w.alloc (.cells #[a] ta)).alloc (.cells #[b] tb)).heap.size = w.heap.size + 1 + 1 by simp] at this
    exact heap_old (heap_old this)
  · have := heap_new (((w.alloc (.cells #[a] ta)).alloc (.cells #[b] tb)).alloc (.cells #[c] tc)) (.cells #[d] td)
    rw [show (((w.alloc (.cells #[a] ta)).alloc (.cells #[b] tb)).alloc (.cells #[c] tc)).heap.size = w.heap.size + 1 + 1 + 1 by simp] at this
    exact heap_old this
  · have := heap_new ((((w.alloc (.cells #[a] ta)).alloc (.cells #[b] tb)).alloc (.cells #[c] tc)).alloc (.cells #[d] td)) (.cells #[e1, e2, e3] te)
    rw [show ((((w.alloc (.cells #[a] ta)).alloc (.cells #[b] tb)).alloc (.cells #[c] tc)).alloc (.cells #[d] td)).heap.size = w.heap.size + 4 by simp] at this
    exact this

theorem cut_append {nd ex : List Nd} {f v : Nat} {b : Bool} (h : f < nd.length) : cut (nd ++ ex) f v b = cut nd f v b := by
  unfold cut
  rw [List.getElem?_append_left h]
theorem OkIte.lift {nd ex : List Nd} {f g h r : Nat} (hf : f < nd.length) (hg : g < nd.length) (hh : h < nd.length) (ho : OkIte nd (nd ++ ex) f g h r) : OkIte (nd ++ ex) (nd ++ ex) f g h r := by
  intro S tf tg th F G H d1 d2 d3
  exact ho S tf tg th F G H (d1.shrink hf) (d2.shrink hg) (d3.shrink hh)
theorem Up.len {s s' : St} (h : Up s s') : s.nd.length ≤ s'.nd.length := by
  obtain ⟨ex, e⟩ := h.nd
  rw [e, List.length_append]; omega
theorem ite_mk {S : Nat → Bool} {k2 : Blk} {s s1 s2 : St} {f g h tf tg th v lo hi p : Nat} {F G H : Env → Bool} {w : World} (hW : WF s.nd) (d1 : Den S s.nd f tf F) (d2 : Den S s.nd g tg G) (d3 : Den S s.nd h th H) (hv : v = min tf (min tg th)) (hv2 : v < 256) (hS : S v = true)
    (U1 : Up s s1) (U2 : Up s1 s2) (o1 : OkIte s.nd s1.nd (cut s.nd f v false) (cut s.nd g v false) (cut s.nd h v false) lo) (o2 : OkIte s1.nd s2.nd (cut s1.nd f v true) (cut s1.nd g v true) (cut s1.nd h v true) hi) (hA : Ar w k2 s2) (hm : s2.m + 1 ≤ 1000000000) (hp : k2.p = p) :
    Calls Try.prog 41 #[.pointer (some ⟨p, 0, none⟩), .int .i32 v, .int .i32 lo, .int .i32 hi] w fun e w' => ∃ k' s' r, e = .returned (.int .i32 (r : Nat)) ∧ Ar w' k' s' ∧ Turn k2 k' w w' ∧ Up s2 s' ∧ s'.m ≤ s2.m + 1 ∧ OkIte s.nd s'.nd f g h r := by
  subst hp
  obtain ⟨ex1, e1⟩ := U1.nd
  obtain ⟨ex2, e2⟩ := U2.nd
  rw [e1, cut_append (d1.lt hW), cut_append (d2.lt hW), cut_append (d3.lt hW), ← e1] at o2
  obtain ⟨a1, ha1, q1⟩ := cut_den hW d1 (v := v) (by omega) hv2 false
  obtain ⟨a2, ha2, q2⟩ := cut_den hW d2 (v := v) (by omega) hv2 false
  obtain ⟨a3, ha3, q3⟩ := cut_den hW d3 (v := v) (by omega) hv2 false
  obtain ⟨b1, hb1, p1⟩ := cut_den hW d1 (v := v) (by omega) hv2 true
  obtain ⟨b2, hb2, p2⟩ := cut_den hW d2 (v := v) (by omega) hv2 true
  obtain ⟨b3, hb3, p3⟩ := cut_den hW d3 (v := v) (by omega) hv2 true
  obtain ⟨tl, h1, dl⟩ := o1 S _ _ _ _ _ _ q1 q2 q3
  obtain ⟨tt, h2, dh⟩ := o2 S _ _ _ _ _ _ (p1.up U1) (p2.up U1) (p3.up U1)
  refine (mk_any k2 s2 v lo hi w hA hm S tl tt _ _ (dl.up U2) dh (by omega) (by omega) hv2 hS).mono ?_
  rintro e w' ⟨k', s', r, he, hA', hT, hU, hr, ho⟩
  exact ⟨k', s', r, he, hA', hT, hU, hr, ite_halves hW d1 d2 d3 hv hv2 ⟨ex1, e1⟩ ⟨ex2, e2⟩ o1 o2 ho⟩

theorem Inv.memo {s : St} {fb ft : Nd → Option Int} (I : Inv s fb ft) {f g h r : Nat} (hf : f < s.nd.length) (hg : g < s.nd.length) (hh : h < s.nd.length) (hr : r < s.nd.length) (ho : OkIte s.nd s.nd f g h r) :
    Inv { s with m := s.m + 1 } fb (fun x => if x = (f, g, h) then some (r : Int) else ft x) := by
  refine ⟨I.by_, fun a b c i hi => ?_, I.wf, by have := I.nm; simp only; omega, I.gi⟩
  try simp only at hi
  split at hi
  · rename_i e
    simp only [Prod.mk.injEq] at e
    obtain ⟨rfl, rfl, rfl⟩ := e
    cases hi
    exact ⟨r, rfl, hr, hf, hg, hh, ho⟩
  · exact I.it a b c i hi

set_option maxHeartbeats 8000000 in
set_option maxRecDepth 100000 in
theorem ite_step (n : Nat) (hI : IteAt n) : IteAt (n + 1) := by
  intro S k s f g h tf tg th F G H w hn hA d1 d2 d3 hm
  have hW : WF s.nd := by obtain ⟨_, _, _, I⟩ := hA; exact I.wf
  have hpow : 2 ≤ 2 ^ (nS S (min tf (min tg th)) + 1) := by have := Nat.one_le_two_pow (n := nS S (min tf (min tg th))); rw [Nat.pow_succ]; omega
  have hbl := box4 w (.pointer (some ⟨k.p, 0, none⟩)) (.int .i32 f) (.int .i32 g) (.int .i32 h) 24 21 21 21
  obtain ⟨v, hv⟩ : ∃ v, v = min tf (min tg th) := ⟨_, rfl⟩
  rw [← hv] at hn hm hpow ⊢
  -- what is answered at once
  have easy : ∀ r, OkIte s.nd s.nd f g h r → ∀ w', Below w.heap.size w w' → NodeOut k s w (2 ^ (nS S v + 1)) (fun nd' r => OkIte s.nd nd' f g h r) (.returned (.int .i32 (r : Nat))) w' :=
    fun r hr w' hb => ⟨k, s, r, rfl, hA.below hb, Turn.below hb, Up.refl _, by omega, hr⟩
  have HE := hide easy
  have HBL := hide hbl
  clear easy
  cases b1 : ((f : Int) == 1)
  case true =>
    have HO := hide (HE.out g (by have : f = 1 := by have := beq_t b1; omega
                                  subst this; exact ite_one hW) _ hbl)
    clear hA d1 d2 d3 hI hW hbl HE HBL
    go_enter Try.func40, Try.ntmps40
    go_wp2_with fail
    go_ret
    exact HO.out
  case false =>
  cases b2 : ((g : Int) == h)
  case true =>
    have HO := hide (HE.out g (by have : g = h := by have := beq_t b2; omega
                                  subst this; exact ite_same) _ hbl)
    clear hA d1 d2 d3 hI hW hbl HE HBL
    go_enter Try.func40, Try.ntmps40
    go_wp2_with fail
    go_ret
    exact HO.out
  case false =>
  cases b3 : ((f : Int) == 0)
  case true =>
    have HO := hide (HE.out h (by have : f = 0 := by have := beq_t b3; omega
                                  subst this; exact ite_zero) _ hbl)
    clear hA d1 d2 d3 hI hW hbl HE HBL
    go_enter Try.func40, Try.ntmps40
    go_wp2_with fail
    go_ret
    exact HO.out
  case false =>
  have HA := hide hA
  obtain ⟨fb, ft, H, I⟩ := hA
  have HF : Hid (∀ i, w.heap.size ≤ i → ¬ fp k i) := fun i hi hf => by have := H.lt i hf; omega
  have hv2 : v < 256 := by
    have := d1.top
    have b1' := beq_f b1
    have b3' := beq_f b3
    omega
  have hS : S v = true := by
    have : v = tf ∨ v = tg ∨ v = th := by omega
    rcases this with e | e | e
    · rw [e]; exact d1.first (by omega)
    · rw [e]; exact d2.first (by omega)
    · rw [e]; exact d3.first (by omega)
  have hq : 2 ^ (nS S v + 1) = 2 * 2 ^ (nS S (v + 1) + 1) := by
    rw [nS_step S hv2, hS, Nat.pow_succ, Nat.pow_succ, if_pos rfl, Nat.add_comm 1, Nat.pow_succ]
    omega
  have hq2 : 2 ≤ 2 ^ (nS S (v + 1) + 1) := by have := Nat.one_le_two_pow (n := nS S (v + 1)); rw [Nat.pow_succ]; omega
  have l1 := d1.lt hW
  have l2 := d2.lt hW
  have l3 := d3.lt hW
  have hnm := I.nm
  have sm : small (f, g, h) := ⟨by simp; omega, by simp; omega, by simp; omega⟩
  obtain ⟨kl, hkl⟩ := keyT (f, g, h) sm
  cases b4 : ((g : Int) == 1)
  · go_enter Try.func40, Try.ntmps40
    go_wp2_with fail
    generalize hWd : (((((w.alloc (Obj.cells #[Value.pointer (some { block := k.p, off := 0 })] 24)).alloc (Obj.cells #[Value.int IntKind.i32 f] 21)).alloc (Obj.cells #[Value.int IntKind.i32 g] 21)).alloc (Obj.cells #[Value.int IntKind.i32 h] 21)).alloc (Obj.cells #[Value.int IntKind.i32 f, Value.int IntKind.i32 g, Value.int IntKind.i32 h] 93)) = W
    obtain ⟨hbw, z0, z1, z2, z3, z4, hsz⟩ := box5 w _ _ _ _ _ _ _ _ _ _ _ _ W hWd.symm
    have H1 := H.below hbw
    have y0 : ∀ x, (lat W x).cell? ⟨w.heap.size, 0, none⟩ = some (.pointer (some ⟨k.p, 0, none⟩)) := lat_cell (cell_heap z0 rfl)
    have y4 : ∀ x, (lat W x).cell? ⟨w.heap.size + 4, 0, none⟩ = some (.int .i32 f) := lat_cell (cell_heap z4 rfl)
    have y5 : ∀ x, (lat W x).cell? ⟨w.heap.size + 4, 1, none⟩ = some (.int .i32 g) := lat_cell (cell_heap z4 rfl)
    have y6 : ∀ x, (lat W x).cell? ⟨w.heap.size + 4, 2, none⟩ = some (.int .i32 h) := lat_cell (cell_heap z4 rfl)
    have y7 := lat_cell H1.c4
    have lk : ∀ x, (Instr.lookup 61 (.map (some k.it)) (.agg #[.int .i32 f, .int .i32 g, .int .i32 h]) true).run Try.prog (lat W x) = .ok (.tuple #[.int .i32 ((ft (f, g, h)).getD 0), .bool (ft (f, g, h)).isSome]) (lat W x) :=
      fun x => ((H1.below (lat_below W x)).it).look keyedT Try.underlying61 Try.underlying21 (zero3 _) hkl
    have HBW := hide hbw
    have HZ0 := hide z0
    have HZ1 := hide z1
    have HZ2 := hide z2
    have HZ3 := hide z3
    have HZ4 := hide z4
    have HH1 := hide H1
    have HI := hide I
    clear H H1 I z0 z1 z2 z3 z4 hbw hbl hWd HBL
    cases hf : ft (f, g, h) with
    | some c =>
      obtain ⟨r, rfl, hr0, _, _, _, hr⟩ := HI.out.it _ _ _ _ hf
      rw [hf] at lk
      simp only [Option.getD_some, Option.isSome_some] at lk
      refine wp_region_lat (by kernel_rfl) (by kernel_rfl) ?_
      repeat (first | go_big_quiet_step ((fail)) | quiet_step ((fail)))
      refine wpQuiet_nil ?_
      intro _ hlat
      obtain ⟨wq, rfl⟩ := hlat
      go_wp2_with fail
      go_ret
      exact HE.out r hr _ (below_wide HBW.out (lat_below W wq))
    | none =>
      rw [hf] at lk
      simp only [Option.getD_none, Option.isSome_none] at lk
      refine wp_region_lat (by kernel_rfl) (by kernel_rfl) ?_
      repeat (first | go_big_quiet_step ((fail)) | quiet_step ((fail)))
      refine wpQuiet_nil ?_
      intro _ hlat
      obtain ⟨wq, rfl⟩ := hlat
      have hb2 := below_wide HBW.out (lat_below W wq)
      have z0 := heapB (lat_below W wq) HZ0.out
      have z1 := heapB (lat_below W wq) HZ1.out
      have z2 := heapB (lat_below W wq) HZ2.out
      have z3 := heapB (lat_below W wq) HZ3.out
      have z4 := heapB (lat_below W wq) HZ4.out
      have hs2 : w.heap.size + 5 ≤ (lat W wq).heap.size := by have := (lat_below W wq).size; omega
      have H2 := HH1.out.below (lat_below W wq)
      clear y0 y4 y5 y6 y7 lk HZ0 HZ1 HZ2 HZ3 HZ4 HH1 HBW
      generalize lat W wq = w2 at *
      obtain ⟨_, _, nf⟩ := d1.head hW
      obtain ⟨_, _, ng⟩ := d2.head hW
      obtain ⟨_, _, nh⟩ := d3.head hW
      have r1 : (f : Int) < s.nd.length := by omega
      have r2 : (g : Int) < s.nd.length := by omega
      have r3 : (h : Int) < s.nd.length := by omega
      have HS : Hid (∀ w', Below w2.heap.size w2 w' → w'.cell? ⟨w.heap.size, 0, none⟩ = some (.pointer (some ⟨k.p, 0, none⟩)) ∧ w'.cell? ⟨w.heap.size + 1, 0, none⟩ = some (.int .i32 f) ∧ w'.cell? ⟨w.heap.size + 1 + 1, 0, none⟩ = some (.int .i32 g) ∧ w'.cell? ⟨w.heap.size + 1 + 1 + 1, 0, none⟩ = some (.int .i32 h) ∧ w'.cell? ⟨k.p, 2, none⟩ = some (.slice (some ⟨k.g, 0, none⟩) s.nd.length k.c) ∧ w'.cell? ⟨k.g, f * 3, none⟩ = some (.int .i32 tf) ∧ w'.cell? ⟨k.g, g * 3, none⟩ = some (.int .i32 tg) ∧ w'.cell? ⟨k.g, h * 3, none⟩ = some (.int .i32 th)) :=
        fun w' hb => ⟨cell_heap (heapB hb z0) rfl, cell_heap (heapB hb z1) rfl, cell_heap (heapB hb z2) rfl, cell_heap (heapB hb z3) rfl, (H2.below hb).c2, ((H2.below hb).node nf).1, ((H2.below hb).node ng).1, ((H2.below hb).node nh).1⟩
      have hmin : ∀ (w' : World) ts ty, (Builtin.min_ ts ty #[.int .i32 tf, .int .i32 tg, .int .i32 th]).run Try.prog w' = .ok (.int .i32 (v : Nat)) w' := by
        intro w' ts ty
        rw [run_min_int3, hv]
        congr 2
        split <;> split <;> omega
      have HV := hide hv
      clear hv
      go_wp2_with fail
      go_region_held3 (fun w' => w'.cell? ⟨w.heap.size, 0, none⟩ = some (.pointer (some ⟨k.p, 0, none⟩)) ∧ w'.cell? ⟨w.heap.size + 1, 0, none⟩ = some (.int .i32 f) ∧ w'.cell? ⟨w.heap.size + 1 + 1, 0, none⟩ = some (.int .i32 g) ∧ w'.cell? ⟨w.heap.size + 1 + 1 + 1, 0, none⟩ = some (.int .i32 h) ∧ w'.cell? ⟨k.p, 2, none⟩ = some (.slice (some ⟨k.g, 0, none⟩) s.nd.length k.c) ∧ w'.cell? ⟨k.g, f * 3, none⟩ = some (.int .i32 tf) ∧ w'.cell? ⟨k.g, g * 3, none⟩ = some (.int .i32 tg) ∧ w'.cell? ⟨k.g, h * 3, none⟩ = some (.int .i32 th))
        (first | exact HS.out _ (Below.drew (Below.refl _ w2)) | exact HS.out _ (Below.alloc (Below.drew (Below.refl _ w2)) (Nat.le_refl _) _) | exact HS.out _ (Below.drew (Below.alloc (Below.refl _ w2) (Nat.le_refl _) _)) | exact HS.out _ (Below.setCell (Below.alloc (Below.drew (Below.refl _ w2)) (Nat.le_refl _) _) (Nat.le_refl _) _) | exact HS.out _ (Below.setCell (Below.drew (Below.alloc (Below.refl _ w2) (Nat.le_refl _) _)) (Nat.le_refl _) _))
        (fail)
      all_goals (
        have hb3 : Below w2.heap.size w2 (w2.alloc (Obj.cells #[.int .i32 v] 21)).drew := ((Below.refl _ w2).alloc (Nat.le_refl _) _).drew
        have HB3 := hide (below_wide hb2 hb3)
        have x0 := heapB hb3 z0
        have x1 := heapB hb3 z1
        have x2 := heapB hb3 z2
        have x3 := heapB hb3 z3
        have x4 := heapB hb3 z4
        have x5 : (w2.alloc (Obj.cells #[.int .i32 v] 21)).drew.heap[w2.heap.size]? = some (.cells #[.int .i32 v] 21 (0, 0)) := heap_new _ _
        generalize (w2.alloc (Obj.cells #[.int .i32 v] 21)).drew = w3 at *
        have HA3 := hide (HA.out.below HB3.out)
        clear hb3 HS hmin H2 nf ng nh r1 r2 r3 z0 z1 z2 z3 z4 hb2
        have c0 : w3.cell? ⟨w.heap.size, 0, none⟩ = some (.pointer (some ⟨k.p, 0, none⟩)) := cell_heap x0 rfl
        have c1 : w3.cell? ⟨w.heap.size + 1, 0, none⟩ = some (.int .i32 f) := cell_heap x1 rfl
        have c2 : w3.cell? ⟨w.heap.size + 1 + 1, 0, none⟩ = some (.int .i32 g) := cell_heap x2 rfl
        have c3 : w3.cell? ⟨w.heap.size + 1 + 1 + 1, 0, none⟩ = some (.int .i32 h) := cell_heap x3 rfl
        have c5 : w3.cell? ⟨w2.heap.size, 0, none⟩ = some (.int .i32 v) := cell_heap x5 rfl
        have HP1 := hide (part_any n hI S k s f g h tf tg th v F G H false w3 _ _ _ _ _ HA3.out d1 d2 d3 HV.out hv2 (by omega) (by omega) c0 c1 c5 c2 c3 (HF.out _ (by omega)) (HF.out _ (by omega)) (HF.out _ (by omega)) (HF.out _ (by omega)) (HF.out _ (by omega)))
        go_wp2_with fail
        refine HP1.out.mono ?_
        intro e w4 hh
        unfold NodeOut at hh
        obtain ⟨k1, s1, lo, he, hA4, T4, U4, m4, o4⟩ := hh
        subst he
        have hlt0 := lt_of_cell c0
        have hlt1 := lt_of_cell c1
        have hlt2 := lt_of_cell c2
        have hlt3 := lt_of_cell c3
        have hlt4 := lt_heap x4
        have hlt5 := lt_of_cell c5
        simp only at hlt0 hlt1 hlt2 hlt3 hlt5
        have f0 := HF.out w.heap.size (by omega)
        have f1 := HF.out (w.heap.size + 1) (by omega)
        have f2 := HF.out (w.heap.size + 1 + 1) (by omega)
        have f3 := HF.out (w.heap.size + 1 + 1 + 1) (by omega)
        have f4 := HF.out (w.heap.size + 4) (by omega)
        have f5 := HF.out w2.heap.size (by omega)
        have g0 := T4.fpn hlt0 f0
        have g1 := T4.fpn hlt1 f1
        have g2 := T4.fpn hlt2 f2
        have g3 := T4.fpn hlt3 f3
        have g4 := T4.fpn hlt4 f4
        have g5 := T4.fpn hlt5 f5
        have e0 : w4.drew.cell? ⟨w.heap.size, 0, none⟩ = some (.pointer (some ⟨k1.p, 0, none⟩)) := by rw [T4.p]; exact T4.cell c0 f0
        have e1 : w4.drew.cell? ⟨w.heap.size + 1, 0, none⟩ = some (.int .i32 f) := T4.cell c1 f1
        have e2 : w4.drew.cell? ⟨w.heap.size + 1 + 1, 0, none⟩ = some (.int .i32 g) := T4.cell c2 f2
        have e3 : w4.drew.cell? ⟨w.heap.size + 1 + 1 + 1, 0, none⟩ = some (.int .i32 h) := T4.cell c3 f3
        have e5 : w4.drew.cell? ⟨w2.heap.size, 0, none⟩ = some (.int .i32 v) := T4.cell c5 f5
        have hA4d := hA4.below ((Below.refl _ w4).drew)
        have HP2 := hide (part_any n hI S k1 s1 f g h tf tg th v F G H true w4.drew _ _ _ _ _ hA4d (d1.up U4) (d2.up U4) (d3.up U4) HV.out hv2 (by omega) (by omega) e0 e1 e5 e2 e3 g0 g1 g5 g2 g3)
        have x4' := hide (T4.heap x4 f4)
        have HT4 := hide (T4.trans (Turn.below (k := k1) ((Below.refl _ w4).drew)))
        have HSZ := hide T4.size
        have HO4 := hide o4
        have HU4 := hide U4
        have hk4 : w4.drew.cell? ⟨w.heap.size, 0, none⟩ = some (.pointer (some ⟨k.p, 0, none⟩)) ∧ w4.drew.cell? ⟨w2.heap.size, 0, none⟩ = some (.int .i32 v) := ⟨T4.cell c0 f0, T4.cell c5 f5⟩
        clear hA4 hA4d T4 U4 o4 HP1 c0 c1 c2 c3 c5 e0 e1 e2 e3 e5 x0 x1 x2 x3 x4 x5 HA3
        go_wp2_with fail
        go_region_held3 (fun w' => w'.cell? ⟨w.heap.size, 0, none⟩ = some (.pointer (some ⟨k.p, 0, none⟩)) ∧ w'.cell? ⟨w2.heap.size, 0, none⟩ = some (.int .i32 v))
          (first | exact hk4 | exact hk5 | exact hk6)
          (first
            | (go_at_call 57; with_reducible refine HP2.out.mono ?_; intro e w5 hh; unfold NodeOut at hh; obtain ⟨k2, s2, hi, he, hA5, T5, U5, m5, o5⟩ := hh; subst he; have hk5 := And.intro (T5.cell hk4.1 g0) (T5.cell hk4.2 g5); have HA5 := hide hA5; have HT5 := hide T5; have HU5 := hide U5; have HO5 := hide o5; clear hA5 T5 U5 o5)
            | (go_at_call 41; with_reducible refine (ite_mk hW d1 d2 d3 HV.out hv2 hS HU4.out HU5.out HO4.out HO5.out HA5.out (by omega) (HT5.out.p.trans HT4.out.p)).mono ?_; rintro e w6 ⟨k3, s3, r, he, hA6, T6, U6, m6, o6⟩; subst he; have hk6 := And.intro (T6.cell hk5.1 (HT5.out.fpn (lt_of_cell hk4.1) g0)) (T6.cell hk5.2 (HT5.out.fpn (lt_of_cell hk4.2) g5)); have HA6 := hide hA6; have HT6 := hide T6; have HU6 := hide U6; have HO6 := hide o6; clear hA6 T6 U6 o6))
        all_goals (
          go_wp2_with fail
          have x6 := hide (HT6.out.heap (HT5.out.heap x4'.out g4) (HT5.out.fpn (lt_heap x4'.out) g4))
          obtain ⟨fb6, ft6, H6, I6⟩ := HA6.out
          have hp3 : k3.p = k.p := HT6.out.p.trans (HT5.out.p.trans HT4.out.p)
          have u0 : w6.drew.cell? ⟨w.heap.size, 0, none⟩ = some (.pointer (some ⟨k.p, 0, none⟩)) := hk6.1
          have u1 : w6.drew.cell? ⟨k.p, 4, none⟩ = some (.map (some k3.it)) := by rw [← hp3]; exact H6.drew.c4
          have u2 : w6.drew.cell? ⟨w.heap.size + 4, 0, none⟩ = some (.int .i32 f) := cell_heap x6.out rfl
          have u3 : w6.drew.cell? ⟨w.heap.size + 4, 1, none⟩ = some (.int .i32 g) := cell_heap x6.out rfl
          have u4 : w6.drew.cell? ⟨w.heap.size + 4, 2, none⟩ = some (.int .i32 h) := cell_heap x6.out rfl
          have u5 : w6.drew.cell? ⟨w.heap.size + 1 + 1 + 1 + 1, 0, none⟩ = some (.int .i32 f) := cell_heap x6.out rfl
          have u6 : w6.drew.cell? ⟨w.heap.size + 1 + 1 + 1 + 1, 1, none⟩ = some (.int .i32 g) := cell_heap x6.out rfl
          have u7 : w6.drew.cell? ⟨w.heap.size + 1 + 1 + 1 + 1, 2, none⟩ = some (.int .i32 h) := cell_heap x6.out rfl
          have hU := (HU4.out.trans HU5.out).trans HU6.out
          obtain ⟨ex, hex⟩ := hU.nd
          have hrl : r < s3.nd.length := by
            obtain ⟨t, _, d⟩ := HO6.out S _ _ _ _ _ _ d1 d2 d3
            exact d.lt I6.wf
          have hl3 := hU.len
          have hnm3 := I6.nm
          have hI8 := hide (I6.memo (f := f) (g := g) (h := h) (by omega) (by omega) (by omega) hrl (by rw [hex]; exact OkIte.lift l1 l2 l3 (by rw [← hex]; exact HO6.out)))
          have HH6 := hide H6.drew
          have HTT := hide ((((Turn.below (k := k) HB3.out).trans HT4.out).trans HT5.out).trans (HT6.out.trans (Turn.below ((Below.refl _ w6).drew))))
          have HUU := hide hU
          clear H6 I6 hex hU
          have v1 : s3.m < maxLen := by unfold maxLen; omega
          have v2 : (Lit.int .i32 r).wf = true := wf3 (by omega) (by omega)
          go_still_tail 6, (by kernel_rfl)
          change wpList _ _ _ _ _ w6.drew
          generalize w6.drew = w7 at *
          go_wp2_with (at_mapUpdate; go_must (refine wpList_put rfl (.tmp 89) (.tmp 90) (.tmp 91) rfl HH6.out.it keyedT Try.underlying61 Try.underlying21 v1 encN_inj rfl (f, g, h) kl rfl hkl r rfl v2 ?_))
          intro w8 hmi hmt
          obtain ⟨H8, T8⟩ := HH6.out.itPut hmi hmt
          have HX := hide (show NodeOut k s w (2 ^ (nS S v + 1)) (fun nd' r => OkIte s.nd nd' f g h r) (.returned (.int .i32 (r : Nat))) w8 from
            ⟨k3, _, r, rfl, ⟨_, _, H8, hI8.out⟩, HTT.out.trans T8, ⟨HUU.out.vs, HUU.out.ms, HUU.out.gi, HUU.out.gn, HUU.out.he, HUU.out.hn, HUU.out.nd, Nat.le_succ_of_le HUU.out.m⟩, by simp only; omega, HO6.out⟩)
          clear hmi hmt H8 T8
          go_wp2_with fail
          go_ret
          exact HX.out))
  · cases b5 : ((h : Int) == 0)
    case true =>
      have HO := hide (HE.out f (by
        have e1 : g = 1 := by have := beq_t b4; omega
        have e2 : h = 0 := by have := beq_t b5; omega
        subst e1 e2
        exact ite_self) _ hbl)
      clear HA d1 d2 d3 hI hW hbl HE HBL H I
      go_enter Try.func40, Try.ntmps40
      go_wp2_with fail
      go_ret
      exact HO.out
    case false =>
    go_enter Try.func40, Try.ntmps40
    go_wp2_with fail
    generalize hWd : (((((w.alloc (Obj.cells #[Value.pointer (some { block := k.p, off := 0 })] 24)).alloc (Obj.cells #[Value.int IntKind.i32 f] 21)).alloc (Obj.cells #[Value.int IntKind.i32 g] 21)).alloc (Obj.cells #[Value.int IntKind.i32 h] 21)).alloc (Obj.cells #[Value.int IntKind.i32 f, Value.int IntKind.i32 g, Value.int IntKind.i32 h] 93)) = W
    obtain ⟨hbw, z0, z1, z2, z3, z4, hsz⟩ := box5 w _ _ _ _ _ _ _ _ _ _ _ _ W hWd.symm
    have H1 := H.below hbw
    have y0 : ∀ x, (lat W x).cell? ⟨w.heap.size, 0, none⟩ = some (.pointer (some ⟨k.p, 0, none⟩)) := lat_cell (cell_heap z0 rfl)
    have y4 : ∀ x, (lat W x).cell? ⟨w.heap.size + 4, 0, none⟩ = some (.int .i32 f) := lat_cell (cell_heap z4 rfl)
    have y5 : ∀ x, (lat W x).cell? ⟨w.heap.size + 4, 1, none⟩ = some (.int .i32 g) := lat_cell (cell_heap z4 rfl)
    have y6 : ∀ x, (lat W x).cell? ⟨w.heap.size + 4, 2, none⟩ = some (.int .i32 h) := lat_cell (cell_heap z4 rfl)
    have y7 := lat_cell H1.c4
    have lk : ∀ x, (Instr.lookup 61 (.map (some k.it)) (.agg #[.int .i32 f, .int .i32 g, .int .i32 h]) true).run Try.prog (lat W x) = .ok (.tuple #[.int .i32 ((ft (f, g, h)).getD 0), .bool (ft (f, g, h)).isSome]) (lat W x) :=
      fun x => ((H1.below (lat_below W x)).it).look keyedT Try.underlying61 Try.underlying21 (zero3 _) hkl
    have HBW := hide hbw
    have HZ0 := hide z0
    have HZ1 := hide z1
    have HZ2 := hide z2
    have HZ3 := hide z3
    have HZ4 := hide z4
    have HH1 := hide H1
    have HI := hide I
    clear H H1 I z0 z1 z2 z3 z4 hbw hbl hWd HBL
    cases hf : ft (f, g, h) with
    | some c =>
      obtain ⟨r, rfl, hr0, _, _, _, hr⟩ := HI.out.it _ _ _ _ hf
      rw [hf] at lk
      simp only [Option.getD_some, Option.isSome_some] at lk
      refine wp_region_lat (by kernel_rfl) (by kernel_rfl) ?_
      repeat (first | go_big_quiet_step ((fail)) | quiet_step ((fail)))
      refine wpQuiet_nil ?_
      intro _ hlat
      obtain ⟨wq, rfl⟩ := hlat
      go_wp2_with fail
      go_ret
      exact HE.out r hr _ (below_wide HBW.out (lat_below W wq))
    | none =>
      rw [hf] at lk
      simp only [Option.getD_none, Option.isSome_none] at lk
      refine wp_region_lat (by kernel_rfl) (by kernel_rfl) ?_
      repeat (first | go_big_quiet_step ((fail)) | quiet_step ((fail)))
      refine wpQuiet_nil ?_
      intro _ hlat
      obtain ⟨wq, rfl⟩ := hlat
      have hb2 := below_wide HBW.out (lat_below W wq)
      have z0 := heapB (lat_below W wq) HZ0.out
      have z1 := heapB (lat_below W wq) HZ1.out
      have z2 := heapB (lat_below W wq) HZ2.out
      have z3 := heapB (lat_below W wq) HZ3.out
      have z4 := heapB (lat_below W wq) HZ4.out
      have hs2 : w.heap.size + 5 ≤ (lat W wq).heap.size := by have := (lat_below W wq).size; omega
      have H2 := HH1.out.below (lat_below W wq)
      clear y0 y4 y5 y6 y7 lk HZ0 HZ1 HZ2 HZ3 HZ4 HH1 HBW
      generalize lat W wq = w2 at *
      obtain ⟨_, _, nf⟩ := d1.head hW
      obtain ⟨_, _, ng⟩ := d2.head hW
      obtain ⟨_, _, nh⟩ := d3.head hW
      have r1 : (f : Int) < s.nd.length := by omega
      have r2 : (g : Int) < s.nd.length := by omega
      have r3 : (h : Int) < s.nd.length := by omega
      have HS : Hid (∀ w', Below w2.heap.size w2 w' → w'.cell? ⟨w.heap.size, 0, none⟩ = some (.pointer (some ⟨k.p, 0, none⟩)) ∧ w'.cell? ⟨w.heap.size + 1, 0, none⟩ = some (.int .i32 f) ∧ w'.cell? ⟨w.heap.size + 1 + 1, 0, none⟩ = some (.int .i32 g) ∧ w'.cell? ⟨w.heap.size + 1 + 1 + 1, 0, none⟩ = some (.int .i32 h) ∧ w'.cell? ⟨k.p, 2, none⟩ = some (.slice (some ⟨k.g, 0, none⟩) s.nd.length k.c) ∧ w'.cell? ⟨k.g, f * 3, none⟩ = some (.int .i32 tf) ∧ w'.cell? ⟨k.g, g * 3, none⟩ = some (.int .i32 tg) ∧ w'.cell? ⟨k.g, h * 3, none⟩ = some (.int .i32 th)) :=
        fun w' hb => ⟨cell_heap (heapB hb z0) rfl, cell_heap (heapB hb z1) rfl, cell_heap (heapB hb z2) rfl, cell_heap (heapB hb z3) rfl, (H2.below hb).c2, ((H2.below hb).node nf).1, ((H2.below hb).node ng).1, ((H2.below hb).node nh).1⟩
      have hmin : ∀ (w' : World) ts ty, (Builtin.min_ ts ty #[.int .i32 tf, .int .i32 tg, .int .i32 th]).run Try.prog w' = .ok (.int .i32 (v : Nat)) w' := by
        intro w' ts ty
        rw [run_min_int3, hv]
        congr 2
        split <;> split <;> omega
      have HV := hide hv
      clear hv
      go_wp2_with fail
      go_region_held3 (fun w' => w'.cell? ⟨w.heap.size, 0, none⟩ = some (.pointer (some ⟨k.p, 0, none⟩)) ∧ w'.cell? ⟨w.heap.size + 1, 0, none⟩ = some (.int .i32 f) ∧ w'.cell? ⟨w.heap.size + 1 + 1, 0, none⟩ = some (.int .i32 g) ∧ w'.cell? ⟨w.heap.size + 1 + 1 + 1, 0, none⟩ = some (.int .i32 h) ∧ w'.cell? ⟨k.p, 2, none⟩ = some (.slice (some ⟨k.g, 0, none⟩) s.nd.length k.c) ∧ w'.cell? ⟨k.g, f * 3, none⟩ = some (.int .i32 tf) ∧ w'.cell? ⟨k.g, g * 3, none⟩ = some (.int .i32 tg) ∧ w'.cell? ⟨k.g, h * 3, none⟩ = some (.int .i32 th))
        (first | exact HS.out _ (Below.drew (Below.refl _ w2)) | exact HS.out _ (Below.alloc (Below.drew (Below.refl _ w2)) (Nat.le_refl _) _) | exact HS.out _ (Below.drew (Below.alloc (Below.refl _ w2) (Nat.le_refl _) _)) | exact HS.out _ (Below.setCell (Below.alloc (Below.drew (Below.refl _ w2)) (Nat.le_refl _) _) (Nat.le_refl _) _) | exact HS.out _ (Below.setCell (Below.drew (Below.alloc (Below.refl _ w2) (Nat.le_refl _) _)) (Nat.le_refl _) _))
        (fail)
      all_goals (
        have hb3 : Below w2.heap.size w2 (w2.alloc (Obj.cells #[.int .i32 v] 21)).drew := ((Below.refl _ w2).alloc (Nat.le_refl _) _).drew
        have HB3 := hide (below_wide hb2 hb3)
        have x0 := heapB hb3 z0
        have x1 := heapB hb3 z1
        have x2 := heapB hb3 z2
        have x3 := heapB hb3 z3
        have x4 := heapB hb3 z4
        have x5 : (w2.alloc (Obj.cells #[.int .i32 v] 21)).drew.heap[w2.heap.size]? = some (.cells #[.int .i32 v] 21 (0, 0)) := heap_new _ _
        generalize (w2.alloc (Obj.cells #[.int .i32 v] 21)).drew = w3 at *
        have HA3 := hide (HA.out.below HB3.out)
        clear hb3 HS hmin H2 nf ng nh r1 r2 r3 z0 z1 z2 z3 z4 hb2
        have c0 : w3.cell? ⟨w.heap.size, 0, none⟩ = some (.pointer (some ⟨k.p, 0, none⟩)) := cell_heap x0 rfl
        have c1 : w3.cell? ⟨w.heap.size + 1, 0, none⟩ = some (.int .i32 f) := cell_heap x1 rfl
        have c2 : w3.cell? ⟨w.heap.size + 1 + 1, 0, none⟩ = some (.int .i32 g) := cell_heap x2 rfl
        have c3 : w3.cell? ⟨w.heap.size + 1 + 1 + 1, 0, none⟩ = some (.int .i32 h) := cell_heap x3 rfl
        have c5 : w3.cell? ⟨w2.heap.size, 0, none⟩ = some (.int .i32 v) := cell_heap x5 rfl
        have HP1 := hide (part_any n hI S k s f g h tf tg th v F G H false w3 _ _ _ _ _ HA3.out d1 d2 d3 HV.out hv2 (by omega) (by omega) c0 c1 c5 c2 c3 (HF.out _ (by omega)) (HF.out _ (by omega)) (HF.out _ (by omega)) (HF.out _ (by omega)) (HF.out _ (by omega)))
        go_wp2_with fail
        refine HP1.out.mono ?_
        intro e w4 hh
        unfold NodeOut at hh
        obtain ⟨k1, s1, lo, he, hA4, T4, U4, m4, o4⟩ := hh
        subst he
        have hlt0 := lt_of_cell c0
        have hlt1 := lt_of_cell c1
        have hlt2 := lt_of_cell c2
        have hlt3 := lt_of_cell c3
        have hlt4 := lt_heap x4
        have hlt5 := lt_of_cell c5
        simp only at hlt0 hlt1 hlt2 hlt3 hlt5
        have f0 := HF.out w.heap.size (by omega)
        have f1 := HF.out (w.heap.size + 1) (by omega)
        have f2 := HF.out (w.heap.size + 1 + 1) (by omega)
        have f3 := HF.out (w.heap.size + 1 + 1 + 1) (by omega)
        have f4 := HF.out (w.heap.size + 4) (by omega)
        have f5 := HF.out w2.heap.size (by omega)
        have g0 := T4.fpn hlt0 f0
        have g1 := T4.fpn hlt1 f1
        have g2 := T4.fpn hlt2 f2
        have g3 := T4.fpn hlt3 f3
        have g4 := T4.fpn hlt4 f4
        have g5 := T4.fpn hlt5 f5
        have e0 : w4.drew.cell? ⟨w.heap.size, 0, none⟩ = some (.pointer (some ⟨k1.p, 0, none⟩)) := by rw [T4.p]; exact T4.cell c0 f0
        have e1 : w4.drew.cell? ⟨w.heap.size + 1, 0, none⟩ = some (.int .i32 f) := T4.cell c1 f1
        have e2 : w4.drew.cell? ⟨w.heap.size + 1 + 1, 0, none⟩ = some (.int .i32 g) := T4.cell c2 f2
        have e3 : w4.drew.cell? ⟨w.heap.size + 1 + 1 + 1, 0, none⟩ = some (.int .i32 h) := T4.cell c3 f3
        have e5 : w4.drew.cell? ⟨w2.heap.size, 0, none⟩ = some (.int .i32 v) := T4.cell c5 f5
        have hA4d := hA4.below ((Below.refl _ w4).drew)
        have HP2 := hide (part_any n hI S k1 s1 f g h tf tg th v F G H true w4.drew _ _ _ _ _ hA4d (d1.up U4) (d2.up U4) (d3.up U4) HV.out hv2 (by omega) (by omega) e0 e1 e5 e2 e3 g0 g1 g5 g2 g3)
        have x4' := hide (T4.heap x4 f4)
        have HT4 := hide (T4.trans (Turn.below (k := k1) ((Below.refl _ w4).drew)))
        have HSZ := hide T4.size
        have HO4 := hide o4
        have HU4 := hide U4
        have hk4 : w4.drew.cell? ⟨w.heap.size, 0, none⟩ = some (.pointer (some ⟨k.p, 0, none⟩)) ∧ w4.drew.cell? ⟨w2.heap.size, 0, none⟩ = some (.int .i32 v) := ⟨T4.cell c0 f0, T4.cell c5 f5⟩
        clear hA4 hA4d T4 U4 o4 HP1 c0 c1 c2 c3 c5 e0 e1 e2 e3 e5 x0 x1 x2 x3 x4 x5 HA3
        go_wp2_with fail
        go_region_held3 (fun w' => w'.cell? ⟨w.heap.size, 0, none⟩ = some (.pointer (some ⟨k.p, 0, none⟩)) ∧ w'.cell? ⟨w2.heap.size, 0, none⟩ = some (.int .i32 v))
          (first | exact hk4 | exact hk5 | exact hk6)
          (first
            | (go_at_call 57; with_reducible refine HP2.out.mono ?_; intro e w5 hh; unfold NodeOut at hh; obtain ⟨k2, s2, hi, he, hA5, T5, U5, m5, o5⟩ := hh; subst he; have hk5 := And.intro (T5.cell hk4.1 g0) (T5.cell hk4.2 g5); have HA5 := hide hA5; have HT5 := hide T5; have HU5 := hide U5; have HO5 := hide o5; clear hA5 T5 U5 o5)
            | (go_at_call 41; with_reducible refine (ite_mk hW d1 d2 d3 HV.out hv2 hS HU4.out HU5.out HO4.out HO5.out HA5.out (by omega) (HT5.out.p.trans HT4.out.p)).mono ?_; rintro e w6 ⟨k3, s3, r, he, hA6, T6, U6, m6, o6⟩; subst he; have hk6 := And.intro (T6.cell hk5.1 (HT5.out.fpn (lt_of_cell hk4.1) g0)) (T6.cell hk5.2 (HT5.out.fpn (lt_of_cell hk4.2) g5)); have HA6 := hide hA6; have HT6 := hide T6; have HU6 := hide U6; have HO6 := hide o6; clear hA6 T6 U6 o6))
        all_goals (
          go_wp2_with fail
          have x6 := hide (HT6.out.heap (HT5.out.heap x4'.out g4) (HT5.out.fpn (lt_heap x4'.out) g4))
          obtain ⟨fb6, ft6, H6, I6⟩ := HA6.out
          have hp3 : k3.p = k.p := HT6.out.p.trans (HT5.out.p.trans HT4.out.p)
          have u0 : w6.drew.cell? ⟨w.heap.size, 0, none⟩ = some (.pointer (some ⟨k.p, 0, none⟩)) := hk6.1
          have u1 : w6.drew.cell? ⟨k.p, 4, none⟩ = some (.map (some k3.it)) := by rw [← hp3]; exact H6.drew.c4
          have u2 : w6.drew.cell? ⟨w.heap.size + 4, 0, none⟩ = some (.int .i32 f) := cell_heap x6.out rfl
          have u3 : w6.drew.cell? ⟨w.heap.size + 4, 1, none⟩ = some (.int .i32 g) := cell_heap x6.out rfl
          have u4 : w6.drew.cell? ⟨w.heap.size + 4, 2, none⟩ = some (.int .i32 h) := cell_heap x6.out rfl
          have u5 : w6.drew.cell? ⟨w.heap.size + 1 + 1 + 1 + 1, 0, none⟩ = some (.int .i32 f) := cell_heap x6.out rfl
          have u6 : w6.drew.cell? ⟨w.heap.size + 1 + 1 + 1 + 1, 1, none⟩ = some (.int .i32 g) := cell_heap x6.out rfl
          have u7 : w6.drew.cell? ⟨w.heap.size + 1 + 1 + 1 + 1, 2, none⟩ = some (.int .i32 h) := cell_heap x6.out rfl
          have hU := (HU4.out.trans HU5.out).trans HU6.out
          obtain ⟨ex, hex⟩ := hU.nd
          have hrl : r < s3.nd.length := by
            obtain ⟨t, _, d⟩ := HO6.out S _ _ _ _ _ _ d1 d2 d3
            exact d.lt I6.wf
          have hl3 := hU.len
          have hnm3 := I6.nm
          have hI8 := hide (I6.memo (f := f) (g := g) (h := h) (by omega) (by omega) (by omega) hrl (by rw [hex]; exact OkIte.lift l1 l2 l3 (by rw [← hex]; exact HO6.out)))
          have HH6 := hide H6.drew
          have HTT := hide ((((Turn.below (k := k) HB3.out).trans HT4.out).trans HT5.out).trans (HT6.out.trans (Turn.below ((Below.refl _ w6).drew))))
          have HUU := hide hU
          clear H6 I6 hex hU
          have v1 : s3.m < maxLen := by unfold maxLen; omega
          have v2 : (Lit.int .i32 r).wf = true := wf3 (by omega) (by omega)
          go_still_tail 6, (by kernel_rfl)
          change wpList _ _ _ _ _ w6.drew
          generalize w6.drew = w7 at *
          go_wp2_with (at_mapUpdate; go_must (refine wpList_put rfl (.tmp 89) (.tmp 90) (.tmp 91) rfl HH6.out.it keyedT Try.underlying61 Try.underlying21 v1 encN_inj rfl (f, g, h) kl rfl hkl r rfl v2 ?_))
          intro w8 hmi hmt
          obtain ⟨H8, T8⟩ := HH6.out.itPut hmi hmt
          have HX := hide (show NodeOut k s w (2 ^ (nS S v + 1)) (fun nd' r => OkIte s.nd nd' f g h r) (.returned (.int .i32 (r : Nat))) w8 from
            ⟨k3, _, r, rfl, ⟨_, _, H8, hI8.out⟩, HTT.out.trans T8, ⟨HUU.out.vs, HUU.out.ms, HUU.out.gi, HUU.out.gn, HUU.out.he, HUU.out.hn, HUU.out.nd, Nat.le_succ_of_le HUU.out.m⟩, by simp only; omega, HO6.out⟩)
          clear hmi hmt H8 T8
          go_wp2_with fail
          go_ret
          exact HX.out))
theorem ite_all : ∀ n, IteAt n := by
  intro n
  induction n with
  | zero => intro S k s f g h tf tg th F G H w hn; omega
  | succ n ih => exact ite_step n ih
/-- g where f is true, else h -/
theorem ite_any (S : Nat → Bool) (k : Blk) (s : St) (f g h tf tg th : Nat) (F G H : Env → Bool) (w : World) (hA : Ar w k s) (d1 : Den S s.nd f tf F) (d2 : Den S s.nd g tg G) (d3 : Den S s.nd h th H) (hm : s.m + 2 ^ (nS S (min tf (min tg th)) + 1) ≤ 1000000000) :
    Calls Try.prog 40 #[.pointer (some ⟨k.p, 0, none⟩), .int .i32 f, .int .i32 g, .int .i32 h] w (NodeOut k s w (2 ^ (nS S (min tf (min tg th)) + 1)) (fun nd' r => OkIte s.nd nd' f g h r)) :=
  ite_all 257 S k s f g h tf tg th F G H w (by omega) hA d1 d2 d3 hm
end Go.Proofs.Ytgfjdkkfgclhjaa.Bd
/- Var, Ite, Not, And, Or. -/
namespace Go.Proofs.Ytgfjdkkfgclhjaa.Bd
open Go.RowKit Go.Proofs.Ytgfjdkkfgclhjaa Go.Proofs.Ytgfjdkkfgclhjaa.Lx Go.Maps

structure Adm (s : St) : Prop where
  ms : s.ms ≤ 4194304
  hn : s.hn ≤ 4194304
  gn : s.gn ≤ 900000000
  vs : s.vs ≤ 256
/-- a call that answers a node -/
def ApiOut (k : Blk) (s : St) (w : World) (room : Nat) (ok : List Nd → Nat → Prop) (e : Ending) (w' : World) : Prop :=
  ∃ k' s1 r, Up s s1 ∧ s1.m + 2 ≤ s.m + room ∧ ok s1.nd r ∧ Turn k k' w w' ∧ WF s1.nd ∧ r < s1.nd.length ∧
    ((s.ms < s.hn + (fresh s1 r).length ∧ e = .returned (.tuple #[.int .i64 0, .int .i64 3]) ∧ Ar w' k' s1) ∨
     (s.hn + (fresh s1 r).length ≤ s.ms ∧ e = .returned (.tuple #[.int .i64 (r : Nat), .int .i64 0]) ∧ Ar w' k' (s1.give r)))
theorem api_of {k k1 : Blk} {s s1 : St} {w w1 w' : World} {room r : Nat} {ok : List Nd → Nat → Prop} {e : Ending} (U : Up s s1) (hm : s1.m + 2 ≤ s.m + room) (ho : ok s1.nd r) (T : Turn k k1 w w1) (hw : WF s1.nd) (hr : r < s1.nd.length) (h : GiveOut k1 s1 r w1 e w') : ApiOut k s w room ok e w' := by
  rcases h with ⟨h1, h2, h3, h4⟩ | ⟨h1, h2, h3, h4⟩
  · exact ⟨k1, s1, r, U, hm, ho, T.trans h4, hw, hr, .inl ⟨by rw [← U.ms, ← U.hn]; exact h1, h2, h3⟩⟩
  · exact ⟨k1, s1, r, U, hm, ho, T.trans h4, hw, hr, .inr ⟨by rw [← U.ms, ← U.hn]; exact h1, h2, h3⟩⟩
theorem Ar.wf {w : World} {k : Blk} {s : St} (h : Ar w k s) : WF s.nd := by obtain ⟨_, _, _, I⟩ := h; exact I.wf
theorem Ar.nm {w : World} {k : Blk} {s : St} (h : Ar w k s) : s.nd.length ≤ s.m + 2 := by obtain ⟨_, _, _, I⟩ := h; exact I.nm
theorem give_up {k : Blk} {s s1 : St} {r : Nat} {w : World} (hA : Ar w k s1) (hr : r < s1.nd.length) (hm : s1.m + 2 ≤ 1000000000) (U : Up s s1) (ad : Adm s) :
    Calls Try.prog 37 #[.pointer (some ⟨k.p, 0, none⟩), .int .i32 r] w (GiveOut k s1 r w) :=
  give_any k s1 r w hA hr hm (by rw [U.ms]; exact ad.ms) (by rw [U.gn]; have := ad.gn; omega) (by rw [U.hn]; exact ad.hn)

set_option maxHeartbeats 1000000 in
set_option maxRecDepth 100000 in
theorem var_any (k : Blk) (s : St) (i : Nat) (w : World) (hA : Ar w k s) (ad : Adm s) (hi : i < s.vs) (hm : s.m + 3 ≤ 1000000000) :
    Calls Try.prog 18 #[.pointer (some ⟨k.p, 0, none⟩), .int .i64 i] w (ApiOut k s w 3 (fun nd' r => OkMk s.nd nd' i 0 1 r)) := by
  have hv := ad.vs
  have hW := hA.wf
  have c0 : w.cell? ⟨k.p, 0, none⟩ = some (.int .i64 s.vs) := by obtain ⟨_, _, H, _⟩ := hA; exact H.c0
  have HM := hide (mk_any k s i 0 1 w hA (by omega) (fun _ => true) 256 256 _ _ .zero .one (by omega) (by omega) (by omega) rfl)
  have HAD := hide ad
  have d1 : decide ((i : Int) < 0) = false := by simp
  have d2 : decide ((s.vs : Int) ≤ i) = false := by simp; omega
  clear ad
  go_enter Try.func18, Try.ntmps18
  go_wp2_with fail
  refine HM.out.mono ?_
  rintro e w1 ⟨k1, s1, r, rfl, hA1, T1, U1, m1, o1⟩
  have hr : r < s1.nd.length := by
    obtain ⟨t, _, d⟩ := o1 (fun _ => true) _ _ _ _ rfl .zero .one
    exact d.lt hA1.wf
  have HG := hide (give_up hA1 hr (by omega) U1 HAD.out)
  rw [T1.p] at HG
  have HU := hide U1
  have HO := hide o1
  have HT := hide T1
  have HW1 := hide hA1.wf
  clear hA1 U1 o1 T1 hA HM
  go_wp2_with fail
  refine HG.out.mono ?_
  intro e w2 hg
  have HX := hide (api_of HU.out (room := 3) (by omega) (ok := fun nd' r => OkMk s.nd nd' i 0 1 r) HO.out HT.out HW1.out hr hg)
  rcases hg with ⟨_, rfl, _⟩ | ⟨_, rfl, _⟩
  all_goals (
    go_wp2_with fail
    go_ret2
    exact HX.out)
theorem var_nil (i : Int) (w : World) : Calls Try.prog 18 #[.pointer none, .int .i64 i] w fun e w' => e = .returned (.tuple #[.int .i64 0, .int .i64 2]) ∧ w' = w := by
  go_enter Try.func18, Try.ntmps18
  go_wp2_with fail
  go_ret2
  exact ⟨rfl, rfl⟩
theorem var_bad (k : Blk) (s : St) (i : Int) (w : World) (hA : Ar w k s) (hi : i < 0 ∨ s.vs ≤ i) :
    Calls Try.prog 18 #[.pointer (some ⟨k.p, 0, none⟩), .int .i64 i] w fun e w' => e = .returned (.tuple #[.int .i64 0, .int .i64 1]) ∧ w' = w := by
  have c0 : w.cell? ⟨k.p, 0, none⟩ = some (.int .i64 s.vs) := by obtain ⟨_, _, H, _⟩ := hA; exact H.c0
  cases d1 : decide (i < 0)
  · have d2 : decide ((s.vs : Int) ≤ i) = true := by have := of_decide_eq_false d1; simp; omega
    clear hA hi
    go_enter Try.func18, Try.ntmps18
    go_wp2_with fail
    go_ret2
    exact ⟨rfl, rfl⟩
  · clear hA hi
    go_enter Try.func18, Try.ntmps18
    go_wp2_with fail
    go_ret2
    exact ⟨rfl, rfl⟩

theorem cells3 (w : World) (a b c : Int) : ∀ (j : Nat) (x : Int), [a, b, c][j]? = some x → (w.alloc (.cells #[.int .i64 a, .int .i64 b, .int .i64 c] 3)).cell? ⟨w.heap.size, j, none⟩ = some (.int .i64 x) := by
  intro j x hx
  refine cell_heap (heap_new _ _) ?_
  match j, hx with
  | 0, hx => simpa using hx
  | 1, hx => simpa using hx
  | 2, hx => simpa using hx
  | j + 3, hx => simp at hx
set_option maxHeartbeats 1000000 in
set_option maxRecDepth 100000 in
/-- g where f is true, else h: of nodes that were given out -/
theorem Ite_any (S : Nat → Bool) (k : Blk) (s : St) (f g h tf tg th : Nat) (F G H : Env → Bool) (w : World) (hA : Ar w k s) (ad : Adm s) (g1 : s.gi f = true) (g2 : s.gi g = true) (g3 : s.gi h = true) (d1 : Den S s.nd f tf F) (d2 : Den S s.nd g tg G) (d3 : Den S s.nd h th H) (hm : s.m + 2 ^ (nS S (min tf (min tg th)) + 1) ≤ 1000000000) :
    Calls Try.prog 19 #[.pointer (some ⟨k.p, 0, none⟩), .int .i64 f, .int .i64 g, .int .i64 h] w (ApiOut k s w (2 ^ (nS S (min tf (min tg th)) + 1)) (fun nd' r => OkIte s.nd nd' f g h r)) := by
  have hW := hA.wf
  have hnm := hA.nm
  have l1 := d1.lt hW
  have l2 := d2.lt hW
  have l3 := d3.lt hW
  have hp : 2 ≤ 2 ^ (nS S (min tf (min tg th)) + 1) := by have := Nat.one_le_two_pow (n := nS S (min tf (min tg th))); rw [Nat.pow_succ]; omega
  have hbl := bel_one w (.cells #[.int .i64 f, .int .i64 g, .int .i64 h] 3)
  have HC := hide (check_any k s [(f : Int), g, h] w.heap.size _ (hA.below hbl) (cells3 w f g h) (by simp; omega) (by simp))
  have HGV := hide (gvn_all (s := s) (l := [(f : Int), g, h]) (by simp [g1, g2, g3]))
  have HI := hide (ite_any S k s f g h tf tg th F G H _ (hA.below hbl) d1 d2 d3 hm)
  have HBL := hide hbl
  have HAD := hide ad
  rw [show [(f : Int), g, h].length = 3 from rfl, HGV.out] at HC
  generalize 2 ^ (nS S (min tf (min tg th)) + 1) = room at *
  have HD := hide (And.intro d1 (And.intro d2 d3))
  clear hA g1 g2 g3 d1 d2 d3 hbl ad
  go_enter Try.func19, Try.ntmps19
  go_wp2_with fail
  refine HC.out.mono ?_
  rintro e w1 ⟨rfl, rfl⟩
  go_wp2_with fail
  refine HI.out.mono ?_
  intro e w2 hh
  unfold NodeOut at hh
  obtain ⟨k1, s1, r, rfl, hA1, T1, U1, m1, o1⟩ := hh
  have hr : r < s1.nd.length := by
    obtain ⟨t, _, d⟩ := o1 S _ _ _ _ _ _ HD.out.1 HD.out.2.1 HD.out.2.2
    exact d.lt hA1.wf
  have HG := hide (give_up hA1 hr (by omega) U1 HAD.out)
  rw [T1.p] at HG
  have HU := hide U1
  have HO := hide o1
  have HT := hide ((Turn.below (k := k) HBL.out).trans T1)
  have HW1 := hide hA1.wf
  clear hA1 U1 o1 T1 HI HC
  go_wp2_with fail
  refine HG.out.mono ?_
  intro e w3 hg
  have HX := hide (api_of HU.out m1 (ok := fun nd' r => OkIte s.nd nd' f g h r) HO.out HT.out HW1.out hr hg)
  rcases hg with ⟨_, rfl, _⟩ | ⟨_, rfl, _⟩
  all_goals (
    go_wp2_with fail
    go_ret2
    exact HX.out)
end Go.Proofs.Ytgfjdkkfgclhjaa.Bd
